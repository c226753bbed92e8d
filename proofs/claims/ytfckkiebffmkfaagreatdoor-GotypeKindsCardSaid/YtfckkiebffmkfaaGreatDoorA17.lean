/- Regions that draw their order: the plain laws. -/
import Derived.Test.YtfckkiebffmkfaaGreatDoorA16
namespace Go.Proofs.YtfckkiebffmkfaaGreatDoor.AM
open Go Go.RowKit

def msAt (ops : List Oper) (i : Nat) : Nat := (masks ops).getD i 0

theorem foldl_bits {acc : List Nat} {j : Nat} : ∀ (es : List Edge) (s : Nat), (es.foldl (fun s e => if bindsA e then s ||| 2 ^ e.on ||| acc.getD e.on 0 else s) s).testBit j = true →
    s.testBit j = true ∨ ∃ e ∈ es, bindsA e = true ∧ (j = e.on ∨ (acc.getD e.on 0).testBit j = true)
  | [], s, h => .inl h
  | e :: es, s, h => by
    simp only [List.foldl_cons] at h
    rcases foldl_bits es _ h with h1 | ⟨e', h1, h2, h3⟩
    · split at h1
      · rename_i hb
        rw [Nat.testBit_or, Nat.testBit_or, Nat.testBit_two_pow] at h1
        simp only [Bool.or_eq_true, decide_eq_true_eq] at h1
        rcases h1 with (h1 | h1) | h1
        · exact .inl h1
        · exact .inr ⟨e, by simp, hb, .inl h1.symm⟩
        · exact .inr ⟨e, by simp, hb, .inr h1⟩
      · exact .inl h1
    · exact .inr ⟨e', by simp [h1], h2, h3⟩

theorem masksGo_bits {j : Nat} : ∀ (ops : List Oper) (acc : List Nat), (∀ k, k < acc.length → (masksGo ops acc).getD k 0 = acc.getD k 0) ∧
    ∀ i o, ops[i]? = some o → ((masksGo ops acc).getD (acc.length + i) 0).testBit j = true → ∃ e ∈ o.after.toList, bindsA e = true ∧ (j = e.on ∨ ((masksGo ops acc).getD e.on 0).testBit j = true)
  | [], acc => ⟨fun k hk => rfl, fun i o h => by simp at h⟩
  | p :: rest, acc => by
    obtain ⟨h1, h2⟩ := masksGo_bits (j := j) rest (acc ++ [p.after.toList.foldl (fun s e => if bindsA e then s ||| 2 ^ e.on ||| acc.getD e.on 0 else s) 0])
    have old : ∀ k, k < acc.length → (masksGo (p :: rest) acc).getD k 0 = acc.getD k 0 := by
      intro k hk
      rw [show masksGo (p :: rest) acc = masksGo rest _ from rfl, h1 k (by simp; omega)]
      simp [List.getD_eq_getElem?_getD, List.getElem?_append_left hk]
    refine ⟨old, ?_⟩
    intro i o hi hb
    cases i with
    | zero =>
      simp at hi; subst hi
      rw [show masksGo (p :: rest) acc = masksGo rest _ from rfl, Nat.add_zero, h1 acc.length (by simp)] at hb
      simp only [List.getD_eq_getElem?_getD, List.getElem?_append_right (Nat.le_refl _), Nat.sub_self, List.getElem?_cons_zero, Option.getD_some] at hb
      have hb' := foldl_bits (acc := acc) p.after.toList 0 (by simpa [List.getD_eq_getElem?_getD] using hb)
      rcases hb' with hb' | ⟨e, he1, he2, he3⟩
      · simp at hb'
      · refine ⟨e, he1, he2, ?_⟩
        rcases he3 with he3 | he3
        · exact .inl he3
        · right
          by_cases hlt : e.on < acc.length
          · rw [old e.on hlt]; exact he3
          · simp [List.getD_eq_getElem?_getD, List.getElem?_eq_none (by omega : acc.length ≤ e.on)] at he3
    | succ i =>
      have := h2 i o (by simpa using hi) (by rw [show masksGo (p :: rest) acc = masksGo rest _ from rfl] at hb; simp only [List.length_append, List.length_cons, List.length_nil]; rw [show acc.length + (0 + 1) + i = acc.length + (i + 1) from by omega]; exact hb)
      exact this

theorem masks_bits {ops : List Oper} {i j : Nat} {o : Oper} (hi : ops[i]? = some o) (hb : (msAt ops i).testBit j = true) : ∃ e ∈ o.after.toList, bindsA e = true ∧ (j = e.on ∨ (msAt ops e.on).testBit j = true) :=
  (masksGo_bits ops []).2 i o hi (by simpa [msAt, masks] using hb)

structure DOk (ops : List Oper) : Prop where
  edges : ∀ (i : Nat) (o : Oper), ops[i]? = some o → ∀ e ∈ o.after.toList, bindsA e = true → e.on < i
  guard : ∀ (i : Nat) (o : Oper) (j : Nat) (want : Bool), ops[i]? = some o → o.guard = some (j, want) → (msAt ops i).testBit j = true ∧ kdOf o.op ≠ .alloc
  dst : ∀ (i j : Nat) (oi oj : Oper) (d : Tmp), ops[i]? = some oi → ops[j]? = some oj → oi.dst = some d → oj.dst = some d → i = j
  eff : ∀ (i j : Nat) (oi oj : Oper), ops[i]? = some oi → ops[j]? = some oj → i < j → kdOf oi.op = .eff → kdOf oj.op = .eff → (msAt ops j).testBit i = true
  loc : ∀ (i j : Nat) (oi oj : Oper) (d : Tmp), ops[i]? = some oi → ops[j]? = some oj → oj.dst = some d → d ∈ tmpsOf ops oi → (j < i → (msAt ops i).testBit j = true) ∧ (i < j → (msAt ops j).testBit i = true)

theorem DOk.of {ops : List Oper} (h : drawOk ops = true) : DOk ops := by
  unfold drawOk at h
  have key := fun i o (hi : ops[i]? = some o) => (List.all_eq_true.1 h) (o, i) (List.mem_zipIdx_iff_getElem?.2 hi)
  simp only [Bool.and_eq_true] at key
  refine ⟨?_, ?_, ?_, ?_, ?_⟩
  · intro i o hi e he hb
    have := (List.all_eq_true.1 (key i o hi).1.1.1.1) e he
    simpa [hb] using this
  · intro i o j want hi hg
    have := (key i o hi).1.1.1.2
    rw [hg] at this
    simp only [Bool.and_eq_true, decide_eq_true_eq] at this
    exact ⟨this.1.1, this.2⟩
  · intro i j oi oj d hi hj h1 h2
    rcases Nat.lt_trichotomy i j with hlt | he | hlt
    · have := (List.all_eq_true.1 (key i oi hi).1.2) (oj, j) (List.mem_zipIdx_iff_getElem?.2 hj)
      simp [h1, h2] at this
      omega
    · exact he
    · have := (List.all_eq_true.1 (key j oj hj).1.2) (oi, i) (List.mem_zipIdx_iff_getElem?.2 hi)
      simp [h1, h2] at this
      omega
  · intro i j oi oj hi hj hlt h1 h2
    have := (List.all_eq_true.1 (key i oi hi).1.2) (oj, j) (List.mem_zipIdx_iff_getElem?.2 hj)
    simp only [h1, h2, Bool.or_eq_true, Bool.and_eq_true, decide_eq_true_eq, ne_eq, not_true_eq_false, decide_false, Bool.false_eq_true, false_or] at this
    rcases this with h3 | h3
    · omega
    · exact h3.2
  · intro i j oi oj d hi hj h1 h2
    have := (List.all_eq_true.1 (key i oi hi).2) (oj, j) (List.mem_zipIdx_iff_getElem?.2 hj)
    rw [h1] at this
    have hc : (tmpsOf ops oi).contains d = true := by simpa using h2
    simp only [hc, Bool.not_true, Bool.or_false, Bool.or_eq_true, decide_eq_true_eq] at this
    refine ⟨fun hlt => ?_, fun hlt => ?_⟩
    · rcases this with h3 | h3
      · omega
      · rw [if_pos hlt] at h3; exact h3
    · rcases this with h3 | h3
      · omega
      · rw [if_neg (by omega)] at h3; exact h3

/-- The block that an allocation of the region takes. -/
def naAt : Nat → List Oper → Nat → Nat
  | na, o :: rest, i + 1 => naAt (nextA na o) rest i
  | na, _, _ => na

theorem nextA_ge (na : Nat) (o : Oper) : na ≤ nextA na o := by unfold nextA; split <;> omega
theorem naAt_ge : ∀ (ops : List Oper) (na i : Nat), na ≤ naAt na ops i
  | [], na, i => by cases i <;> exact Nat.le_refl _
  | o :: rest, na, 0 => Nat.le_refl _
  | o :: rest, na, i + 1 => Nat.le_trans (nextA_ge na o) (naAt_ge rest _ i)
theorem naAt_lt (ops : List Oper) : ∀ (na i j : Nat) {o : Oper}, i < j → ops[i]? = some o → kdOf o.op = .alloc → naAt na ops i < naAt na ops j := by
  induction ops with
  | nil => intro na i j o _ h; simp at h
  | cons p rest ih =>
    intro na i j o hl h hk
    cases j with
    | zero => omega
    | succ j =>
      cases i with
      | zero =>
        have hp : p = o := by simpa using h
        have h1 := naAt_ge rest (nextA na p) j
        have e : nextA na p = na + 1 := by unfold nextA; rw [hp, hk]
        have e2 : naAt na (p :: rest) (j + 1) = naAt (nextA na p) rest j := rfl
        have e3 : naAt na (p :: rest) 0 = na := rfl
        omega
      | succ i => exact ih (nextA na p) i j (by omega) (by simpa using h) hk
theorem naAt_inj {ops : List Oper} {na i j : Nat} {oi oj : Oper} (hi : ops[i]? = some oi) (hj : ops[j]? = some oj) (h1 : kdOf oi.op = .alloc) (h2 : kdOf oj.op = .alloc) (hne : i ≠ j) : naAt na ops i ≠ naAt na ops j := by
  rcases Nat.lt_or_ge i j with h | h
  · have := naAt_lt ops na i j h hi h1; omega
  · have := naAt_lt ops na j i (by omega) hj h2; omega

theorem preAlloc_spec {T : Tab} : ∀ (ops : List Oper) {h h0 : Heap}, preAlloc T ops h = some h0 →
    h.n ≤ h0.n ∧ (∀ b, b < h.n → h0.get b = h.get b) ∧ (∀ G w, Good T G h w → Good T G h0 w) ∧
    ∀ i o, ops[i]? = some o → ∀ t, o.op = .alloc t → ∃ z, T.zr t = some z ∧ h0.get (naAt h.n ops i) = some (.cells (cellsOf z))
  | [], h, h0, e => by
    simp [preAlloc] at e; subst e
    exact ⟨Nat.le_refl _, fun _ _ => rfl, fun _ _ hg => hg, fun i o hi => by simp at hi⟩
  | p :: rest, h, h0, e => by
    by_cases ha : ∃ t, p.op = .alloc t
    · obtain ⟨t, ht⟩ := ha
      simp only [preAlloc, ht] at e
      split at e
      · rename_i z ag hz hag
        obtain ⟨h1, h2, h3, h4⟩ := preAlloc_spec rest e
        rw [Heap.n_push] at h1
        refine ⟨by omega, fun b hb => (h2 b (by rw [Heap.n_push]; omega)).trans (Heap.get_push_old _ _ hb), fun G w hg => h3 G w (hg.push _), ?_⟩
        intro i o hi t' ht'
        cases i with
        | zero =>
          simp at hi; subst hi
          rw [ht] at ht'; injection ht' with ht'; subst ht'
          refine ⟨z, hz, ?_⟩
          show h0.get h.n = _
          rw [h2 h.n (by rw [Heap.n_push]; omega)]
          exact Heap.get_push_new _ _
        | succ i =>
          obtain ⟨z', hz', hg'⟩ := h4 i o (by simpa using hi) t' ht'
          refine ⟨z', hz', ?_⟩
          have en : nextA h.n p = h.n + 1 := by unfold nextA; rw [ht]; rfl
          show h0.get (naAt (nextA h.n p) rest i) = _
          rw [en]; exact hg'
      · cases e
    · have e' : preAlloc T rest h = some h0 := by
        rw [preAlloc] at e
        split at e
        · rename_i t ht; exact absurd ⟨t, ht⟩ ha
        · exact e
      obtain ⟨h1, h2, h3, h4⟩ := preAlloc_spec rest e'
      refine ⟨h1, h2, h3, ?_⟩
      intro i o hi t' ht'
      cases i with
      | zero =>
        simp at hi; subst hi
        exact absurd ⟨t', ht'⟩ ha
      | succ i =>
        obtain ⟨z', hz', hg'⟩ := h4 i o (by simpa using hi) t' ht'
        refine ⟨z', hz', ?_⟩
        have en : nextA h.n p = h.n := by
          unfold nextA
          split
          · rename_i hk; exact absurd (opA_alloc hk) ha
          · rfl
        show h0.get (naAt (nextA h.n p) rest i) = _
        rw [en]; exact hg'

section
variable {T : Tab} {K : KA}

theorem runD_spec {ops : List Oper} : ∀ (rest : List Oper) {na : Nat} {tm : List AV} {h : Heap} {rs : List Rec}, runD T K ops na rest tm h = some rs →
    rs.length = rest.length ∧ ∀ i x, rs[i]? = some x → rest[i]? = some x.o ∧ wantA ops x.tm x.o = some x.want ∧ x.tm = finT (rs.take i) tm ∧ x.hp = finH (rs.take i) h ∧
      (x.want = true → opD T K (naAt na rest i) (evA T x.tm) x.o x.hp = some (x.r, x.hq)) ∧ (x.want = false → x.r = .undef ∧ x.hq = x.hp)
  | [], na, tm, h, rs, e => by
    simp [runD] at e; subst e
    exact ⟨rfl, fun i x hx => by simp at hx⟩
  | o :: rest, na, tm, h, rs, e => by
    simp only [runD] at e
    split at e
    · rename_i hw
      split at e
      · rename_i v h' ho
        cases hr : runD T K ops (nextA na o) rest (putA o.dst v tm) h' with
        | none => rw [hr] at e; simp at e
        | some rs' =>
          rw [hr] at e
          simp at e; subst e
          obtain ⟨h1, h2⟩ := runD_spec rest hr
          refine ⟨by simp [h1], ?_⟩
          intro i x hx
          cases i with
          | zero =>
            simp at hx; subst hx
            exact ⟨rfl, hw, rfl, rfl, fun _ => ho, fun hf => (by cases hf)⟩
          | succ i =>
            have hx' : rs'[i]? = some x := by simpa using hx
            obtain ⟨g1, g2, g3, g4, g5, g6⟩ := h2 i x hx'
            exact ⟨by simpa using g1, g2, g3, g4, g5, g6⟩
      · cases e
    · rename_i hw
      cases hr : runD T K ops (nextA na o) rest (putA o.dst .undef tm) h with
      | none => rw [hr] at e; simp at e
      | some rs' =>
        rw [hr] at e
        simp at e; subst e
        obtain ⟨h1, h2⟩ := runD_spec rest hr
        refine ⟨by simp [h1], ?_⟩
        intro i x hx
        cases i with
        | zero =>
          simp at hx; subst hx
          exact ⟨rfl, hw, rfl, rfl, fun hf => (by cases hf), fun _ => ⟨rfl, rfl⟩⟩
        | succ i =>
          have hx' : rs'[i]? = some x := by simpa using hx
          obtain ⟨g1, g2, g3, g4, g5, g6⟩ := h2 i x hx'
          exact ⟨by simpa using g1, g2, g3, g4, g5, g6⟩
    · cases e

theorem finT_append : ∀ (xs : List Rec) (x : Rec) (tm : List AV), finT (xs ++ [x]) tm = putA x.o.dst x.r (finT xs tm)
  | [], _, _ => rfl
  | y :: ys, x, tm => by simp only [List.cons_append, finT]; exact finT_append ys x _
theorem finH_append : ∀ (xs : List Rec) (x : Rec) (h : Heap), finH (xs ++ [x]) h = x.hq
  | [], _, _ => rfl
  | y :: ys, x, h => by simp only [List.cons_append, finH]; exact finH_append ys x _

theorem take_next {α : Type} {xs : List α} {i : Nat} {x : α} (h : xs[i]? = some x) : xs.take (i + 1) = xs.take i ++ [x] := by
  rw [List.take_add_one, h]; rfl

/-- The temporaries behind some of the operations. -/
structure TmD (rs : List Rec) (D : Nat → Prop) (tm t : List AV) : Prop where
  len : t.length = tm.length
  done : ∀ i x d, rs[i]? = some x → D i → x.o.dst = some d → d < tm.length → t[d]? = some x.r
  not : ∀ d, (∀ i x, rs[i]? = some x → D i → x.o.dst ≠ some d) → t[d]? = tm[d]?

theorem TmD.agree {rs : List Rec} {D1 D2 : Nat → Prop} {tm t1 t2 : List AV} (h1 : TmD rs D1 tm t1) (h2 : TmD rs D2 tm t2) (d : Nat) (hd : ∀ i x, rs[i]? = some x → x.o.dst = some d → (D1 i ↔ D2 i)) : t1[d]? = t2[d]? := by
  by_cases hlt : d < tm.length
  · by_cases hx : ∃ i x, rs[i]? = some x ∧ x.o.dst = some d ∧ D1 i
    · obtain ⟨i, x, e1, e2, e3⟩ := hx
      rw [h1.done i x d e1 e3 e2 hlt, h2.done i x d e1 ((hd i x e1 e2).1 e3) e2 hlt]
    · rw [h1.not d (fun i x e1 e3 e2 => hx ⟨i, x, e1, e2, e3⟩), h2.not d (fun i x e1 e3 e2 => hx ⟨i, x, e1, e2, (hd i x e1 e2).2 e3⟩)]
  · rw [List.getElem?_eq_none (by rw [h1.len]; omega), List.getElem?_eq_none (by rw [h2.len]; omega)]

theorem TmD.put {rs : List Rec} {D : Nat → Prop} {tm t : List AV} (h : TmD rs D tm t) {i : Nat} {x : Rec} (hx : rs[i]? = some x) (hinj : ∀ (j : Nat) (y : Rec) (d : Tmp), rs[j]? = some y → x.o.dst = some d → y.o.dst = some d → j = i) (hD : ¬ D i) :
    TmD rs (fun j => D j ∨ j = i) tm (putA x.o.dst x.r t) := by
  cases hd : x.o.dst with
  | none =>
    refine ⟨h.len, ?_, ?_⟩
    · intro j y d hy hj hyd hlt
      rcases hj with hj | rfl
      · exact h.done j y d hy hj hyd hlt
      · rw [hx] at hy; injection hy with hy; subst hy; rw [hd] at hyd; cases hyd
    · intro d hn
      exact h.not d (fun j y hy hj => hn j y hy (.inl hj))
  | some d0 =>
    refine ⟨by simp [putA, h.len], ?_, ?_⟩
    · intro j y d hy hj hyd hlt
      by_cases hdd : d = d0
      · subst hdd
        have := hinj j y d hy hd hyd
        subst this
        rw [hx] at hy; injection hy with hy; subst hy
        simp [putA, h.len, hlt]
      · rcases hj with hj | rfl
        · simp only [putA]
          rw [List.getElem?_set_ne (fun e => hdd e.symm)]
          exact h.done j y d hy hj hyd hlt
        · rw [hx] at hy; injection hy with hy; subst hy
          rw [hd] at hyd; injection hyd with hyd; exact absurd hyd.symm hdd
    · intro d hn
      have hne : d0 ≠ d := fun e => hn i x hx (.inr rfl) (e ▸ hd)
      simp only [putA]
      rw [List.getElem?_set_ne hne]
      exact h.not d (fun j y hy hj => hn j y hy (.inl hj))

theorem TmD.congr {rs : List Rec} {D D' : Nat → Prop} {tm t : List AV} (h : TmD rs D tm t) (hD : ∀ i, i < rs.length → (D i ↔ D' i)) : TmD rs D' tm t := by
  have hl : ∀ {i : Nat} {x : Rec}, rs[i]? = some x → i < rs.length := fun hx => (List.getElem?_eq_some_iff.1 hx).1
  exact ⟨h.len, fun i x d hx hd => h.done i x d hx ((hD i (hl hx)).2 hd), fun d hn => h.not d (fun i x hx hd => hn i x hx ((hD i (hl hx)).1 hd))⟩

theorem TmD.nil (rs : List Rec) (tm : List AV) {D : Nat → Prop} (hD : ∀ i, ¬ D i) : TmD rs D tm tm := ⟨rfl, fun i _ _ _ hd => absurd hd (hD i), fun _ _ => rfl⟩

theorem finT_TmD {rs : List Rec} {tm : List AV} (hinj : ∀ (i j : Nat) (x y : Rec) (d : Tmp), rs[i]? = some x → rs[j]? = some y → x.o.dst = some d → y.o.dst = some d → i = j) : ∀ k, TmD rs (· < k) tm (finT (rs.take k) tm)
  | 0 => by
    have : TmD rs (· < 0) tm tm := TmD.nil rs tm (fun i h => by omega)
    simpa [finT] using this
  | k + 1 => by
    have ih := finT_TmD hinj (tm := tm) k
    cases hk : rs[k]? with
    | none =>
      have hle := List.getElem?_eq_none_iff.1 hk
      rw [List.take_of_length_le (by omega)]
      rw [List.take_of_length_le (by omega)] at ih
      exact ih.congr (fun i hi => by omega)
    | some x =>
      rw [take_next hk, finT_append]
      exact (ih.put hk (fun j y d hy e1 e2 => (hinj k j x y d hk hy e1 e2).symm) (by omega)).congr (fun i _ => by omega)

theorem effsOf_mem : ∀ (rs : List Rec) (k c : Nat) (hh : Heap), (c, hh) ∈ effsOf k rs ↔ ∃ i x, rs[i]? = some x ∧ c = k + i ∧ kdOf x.o.op = .eff ∧ hh = x.hq
  | [], k, c, hh => by simp [effsOf]
  | y :: ys, k, c, hh => by
    have ih := effsOf_mem ys (k + 1) c hh
    have split : (∃ i x, (y :: ys)[i]? = some x ∧ c = k + i ∧ kdOf x.o.op = .eff ∧ hh = x.hq) ↔ (c = k ∧ kdOf y.o.op = .eff ∧ hh = y.hq) ∨ ∃ i x, ys[i]? = some x ∧ c = k + 1 + i ∧ kdOf x.o.op = .eff ∧ hh = x.hq := by
      constructor
      · rintro ⟨i, x, h1, h2, h3, h4⟩
        cases i with
        | zero => simp at h1; subst h1; exact .inl ⟨h2, h3, h4⟩
        | succ i => exact .inr ⟨i, x, by simpa using h1, by omega, h3, h4⟩
      · rintro (⟨h2, h3, h4⟩ | ⟨i, x, h1, h2, h3, h4⟩)
        · exact ⟨0, y, rfl, h2, h3, h4⟩
        · exact ⟨i + 1, x, by simpa using h1, by omega, h3, h4⟩
    rw [split]
    simp only [effsOf]
    split
    · rename_i hk
      rw [List.mem_cons, ih, Prod.mk.injEq]
      constructor
      · rintro (⟨h1, h2⟩ | h)
        · exact .inl ⟨h1, hk, h2⟩
        · exact .inr h
      · rintro (⟨h1, _, h2⟩ | h)
        · exact .inl ⟨h1, h2⟩
        · exact .inr h
    · rename_i hk
      rw [ih]
      exact ⟨.inr, fun h => h.elim (fun h => absurd h.2.1 hk) id⟩

theorem checkD_spec {ms : List Nat} {es : List (Nat × Heap)} {h0 : Heap} : ∀ (rs : List Rec) (k : Nat), checkD T K ms es h0 k rs = true → ∀ i x, rs[i]? = some x → kdOf x.o.op = .read → x.want = true →
    (feas ms es (k + i) 0 = true → sameRead T K x h0 = true) ∧ ∀ c ∈ es, feas ms es (k + i) (c.1 + 1) = true → sameRead T K x c.2 = true
  | [], k, h, i, x, hx => by simp at hx
  | y :: ys, k, h, i, x, hx => by
    simp only [checkD, Bool.and_eq_true] at h
    intro hk hw
    cases i with
    | zero =>
      simp at hx; subst hx
      have h1 := h.1
      rw [if_pos ⟨hk, hw⟩] at h1
      simp only [Bool.and_eq_true, List.all_eq_true, Bool.or_eq_true] at h1
      refine ⟨fun hf => ?_, fun c hc hf => ?_⟩
      · rcases h1.1 with h2 | h2
        · rw [Nat.add_zero] at hf; rw [hf] at h2; simp at h2
        · exact h2
      · rcases h1.2 c hc with h2 | h2
        · rw [Nat.add_zero] at hf; rw [hf] at h2; simp at h2
        · exact h2
    | succ i =>
      have := checkD_spec ys (k + 1) h.2 i x (by simpa using hx) hk hw
      rw [show k + (i + 1) = k + 1 + i from by omega]
      exact this

theorem sameRead_eq {x : Rec} {h : Heap} (hk : kdOf x.o.op = .read) (hs : sameRead T K x h = true) : opA T K (evA T x.tm) x.o h = some (x.r, h) := by
  unfold sameRead at hs
  split at hs
  · rename_i v h' ho
    have e1 := AV.beq_eq _ _ hs
    have e2 := opA_read hk ho
    rw [ho, e1, e2]
  · cases hs

theorem wantA_congr {ops : List Oper} {t1 t2 : List AV} {o : Oper} (h : ∀ d ∈ tmpsOf ops o, t1[d]? = t2[d]?) : wantA ops t1 o = wantA ops t2 o := by
  unfold wantA
  cases hg : o.guard with
  | none => rfl
  | some p =>
    obtain ⟨j, want⟩ := p
    simp only
    cases hj : ops[j]? with
    | none => rfl
    | some oj =>
      simp only
      cases hd : oj.dst with
      | none => rfl
      | some d =>
        simp only
        rw [h d (by simp [tmpsOf, hg, hj, hd])]

theorem evA_congr {ops : List Oper} {t1 t2 : List AV} {o : Oper} (h : ∀ d ∈ tmpsOf ops o, t1[d]? = t2[d]?) : ∀ x ∈ o.op.operands.toList, evA T t1 x = evA T t2 x := by
  intro x hx
  cases x with
  | tmp t => exact h t (by unfold tmpsOf; exact List.mem_append_left _ (List.mem_filterMap.2 ⟨.tmp t, hx, rfl⟩))
  | const v => rfl
  | global g => rfl
  | func f => rfl

end
end Go.Proofs.YtfckkiebffmkfaaGreatDoor.AM
