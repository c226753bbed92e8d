/- Regions that draw their order, on the machine. -/
import Derived.Test.YtfckkiebffmkfaaGreatDoorA17
namespace Go.Proofs.YtfckkiebffmkfaaGreatDoor.AM
open Go Go.RowKit

section
variable {P : Program} {gl : Nat → Option (List AV)} {K : KA}

/-- What a region starts from, and what the interpreter has made of it. -/
structure DSet (P : Program) (gl : Nat → Option (List AV)) (K : KA) (ops : Array Oper) (tm : List AV) (h h0 : Heap) (rs : List Rec) (w0 : World) (G0 : Gh) : Prop where
  ok : DOk ops.toList
  pre : preAlloc (tabOf P gl) ops.toList h = some h0
  run : runD (tabOf P gl) K ops.toList h.n ops.toList tm h0 = some rs
  chk : checkD (tabOf P gl) K (masks ops.toList) (effsOf 0 rs) h0 0 rs = true
  good : Good (tabOf P gl) G0 h w0

def hpre (rs : List Rec) (h0 : Heap) (k : Nat) : Heap := finH (rs.take k) h0
def doneB (l : Array Bool) (i : Nat) : Prop := l.getD i false = true

structure DInv (P : Program) (gl : Nat → Option (List AV)) (ops : Array Oper) (tm : List AV) (h h0 : Heap) (rs : List Rec) (w0 : World) (G0 : Gh) (ds : List Deferred) (l : Array Bool) (a : Act) (w : World) (G : Gh) (p : Nat) (t : List AV) : Prop where
  size : l.size = ops.size
  dc : ∀ i j, doneB l i → (msAt ops.toList i).testBit j = true → doneB l j
  tmd : TmD rs (doneB l) tm t
  vrl : VRL w G t a.tmps.toList
  defers : a.defers = ds
  pz : p = 0 ∨ ∃ c x, rs[c]? = some x ∧ kdOf x.o.op = .eff ∧ p = c + 1
  pe : ∀ c x, rs[c]? = some x → kdOf x.o.op = .eff → (doneB l c ↔ c < p)
  good : Good (tabOf P gl) G (hpre rs h0 p) w
  step : Step G0 w0 G w
  unm : ∀ b, b < h.n → G0.m b = none → G0.g b = none → G.m b = none ∧ G.g b = none ∧ (hpre rs h0 p).get b = h.get b
  n : h.n ≤ (hpre rs h0 p).n
  pend : ∀ i x, rs[i]? = some x → kdOf x.o.op = .alloc → ¬ doneB l i → G.m (naAt h.n ops.toList i) = none ∧ G.g (naAt h.n ops.toList i) = none ∧ (hpre rs h0 p).get (naAt h.n ops.toList i) = h0.get (naAt h.n ops.toList i)

variable {ops : Array Oper} {tm : List AV} {h h0 : Heap} {rs : List Rec} {w0 : World} {G0 : Gh} {ds : List Deferred}

theorem hpre_next {k : Nat} {x : Rec} (hx : rs[k]? = some x) : hpre rs h0 (k + 1) = x.hq := by
  unfold hpre; rw [take_next hx, finH_append]

theorem DSet.inj (S : DSet P gl K ops tm h h0 rs w0 G0) : ∀ (i j : Nat) (x y : Rec) (d : Tmp), rs[i]? = some x → rs[j]? = some y → x.o.dst = some d → y.o.dst = some d → i = j := by
  intro i j x y d hx hy h1 h2
  have := (runD_spec _ S.run).2
  exact S.ok.dst i j _ _ d (this i x hx).1 (this j y hy).1 h1 h2

/-- Only what is kept apart as an effect changes the heap. -/
theorem DSet.still (S : DSet P gl K ops tm h h0 rs w0 G0) {i : Nat} {x : Rec} (hx : rs[i]? = some x) (hk : kdOf x.o.op ≠ .eff) : x.hq = x.hp := by
  obtain ⟨_, _, _, _, h5, h6⟩ := (runD_spec _ S.run).2 i x hx
  cases hw : x.want with
  | false => exact (h6 hw).2
  | true =>
    have h5 := h5 hw
    unfold opD at h5
    split at h5
    · simp at h5; exact h5.2.symm
    · cases hkd : kdOf x.o.op with
      | pure => exact (opA_pure hkd h5).1
      | read => exact opA_read hkd h5
      | eff => exact absurd hkd hk
      | alloc => rename_i hne; exact absurd hkd hne

theorem DSet.const (S : DSet P gl K ops tm h h0 rs w0 G0) {p : Nat} : ∀ (q : Nat), p ≤ q → (∀ c x, p ≤ c → c < q → rs[c]? = some x → kdOf x.o.op ≠ .eff) → hpre rs h0 q = hpre rs h0 p
  | 0, hpq, _ => by rw [show p = 0 from by omega]
  | q + 1, hpq, hno => by
    by_cases he : p = q + 1
    · rw [he]
    · have ih := DSet.const S (p := p) q (by omega) (fun c x h1 h2 => hno c x h1 (by omega))
      cases hq : rs[q]? with
      | none =>
        have hle := List.getElem?_eq_none_iff.1 hq
        unfold hpre at ih ⊢
        rw [List.take_of_length_le (by omega)]
        rw [List.take_of_length_le (l := rs) (i := q) (by omega)] at ih
        exact ih
      | some x =>
        rw [hpre_next hq, S.still hq (hno q x (by omega) (by omega) hq), ((runD_spec _ S.run).2 q x hq).2.2.2.1]
        exact ih

theorem doneB_set {l : Array Bool} {i j : Nat} (hi : i < l.size) : doneB (l.setIfInBounds i true) j ↔ doneB l j ∨ j = i := by
  unfold doneB
  simp only [Array.getD_eq_getD_getElem?]
  by_cases hij : i = j
  · subst hij; simp [hi]
  · rw [Array.getElem?_setIfInBounds_ne hij]
    exact ⟨.inl, fun h => h.elim id (fun e => absurd e.symm hij)⟩

theorem ready_spec {l : Array Bool} {i : Nat} (hs : l.size = ops.size) (hi : i ∈ Region.ready .any ops l) : ∃ o, ops[i]? = some o ∧ ¬ doneB l i ∧ i < ops.size ∧ ∀ e ∈ o.after.toList, bindsA e = true → doneB l e.on := by
  unfold Region.ready at hi
  rw [List.mem_filter, List.mem_range] at hi
  obtain ⟨h1, h2⟩ := hi
  simp only [Bool.and_eq_true, Bool.not_eq_true'] at h2
  cases ho : ops[i]? with
  | none => rw [ho] at h2; simp at h2
  | some o =>
    rw [ho] at h2
    refine ⟨o, rfl, ?_, h1, ?_⟩
    · intro hd
      have h3 := h2.1
      unfold doneB at hd
      simp only [Array.getD_eq_getD_getElem?] at h3 hd
      rw [Array.getElem?_eq_getElem (by omega)] at h3 hd
      simp at h3 hd
      rw [h3] at hd; cases hd
    · intro e he hb
      have h4 := h2.2
      simp only [Option.map_some, Option.getD_some, Array.all_eq_true] at h4
      obtain ⟨k, hk, rfl⟩ := List.mem_iff_getElem.1 he
      have h5 := h4 k (by simpa using hk)
      have hb' : Region.binds .any o.after[k] = true := by simpa [bindsA] using hb
      simp only [hb', Bool.not_true, Bool.false_or] at h5
      simpa [doneB] using h5

theorem ready_nil {l : Array Bool} (hs : l.size = ops.size) (hok : DOk ops.toList) (hr : Region.ready .any ops l = []) : ∀ i, i < ops.size → l.getD i true = true := by
  intro i
  induction i using Nat.strongRecOn with
  | _ i ih =>
    intro hi
    cases hd : l.getD i true with
    | true => rfl
    | false =>
      exfalso
      have ho : ops[i]? = some ops[i] := Array.getElem?_eq_getElem hi
      have : i ∈ Region.ready .any ops l := by
        unfold Region.ready
        rw [List.mem_filter, List.mem_range]
        refine ⟨hi, ?_⟩
        rw [hd, ho]
        simp only [Bool.not_false, Bool.true_and, Option.map_some, Option.getD_some, Array.all_eq_true]
        intro k hk
        cases hb : Region.binds .any ops[i].after[k] with
        | false => rfl
        | true =>
          simp only [Bool.not_true, Bool.false_or]
          have hlt := hok.edges i ops[i] (by rw [Array.getElem?_toList]; exact ho) ops[i].after[k] (by simp) hb
          have := ih _ hlt (by omega)
          simp only [Array.getD_eq_getD_getElem?] at this ⊢
          by_cases hsz : ops[i].after[k].on < l.size
          · rw [Array.getElem?_eq_getElem hsz] at this ⊢
            simpa using this
          · exact absurd (by omega) hsz
      rw [hr] at this
      cases this

theorem DSet.at (S : DSet P gl K ops tm h h0 rs w0 G0) {i : Nat} {o : Oper} (ho : ops[i]? = some o) : ∃ x, rs[i]? = some x ∧ x.o = o := by
  have hl := (runD_spec _ S.run).1
  have hi : i < rs.length := by
    rw [hl, Array.length_toList]
    exact (Array.getElem?_eq_some_iff.1 ho).1
  have hx : rs[i]? = some rs[i] := List.getElem?_eq_getElem hi
  refine ⟨rs[i], hx, ?_⟩
  have := ((runD_spec _ S.run).2 i _ hx).1
  rw [Array.getElem?_toList, ho] at this
  injection this with this
  exact this.symm

section
variable {l : Array Bool} {a : Act} {w : World} {G : Gh} {p : Nat} {t : List AV} {i : Nat} {x : Rec}

theorem DInv.notAfter (S : DSet P gl K ops tm h h0 rs w0 G0) (I : DInv P gl ops tm h h0 rs w0 G0 ds l a w G p t) (hx : rs[i]? = some x) (hk : kdOf x.o.op = .eff) (hnd : ¬ doneB l i) {c : Nat} {y : Rec} (hy : rs[c]? = some y) (hky : kdOf y.o.op = .eff) (hd : doneB l c) : c < i := by
  rcases Nat.lt_trichotomy c i with h1 | h1 | h1
  · exact h1
  · subst h1; exact absurd hd hnd
  · have := S.ok.eff i c x.o y.o ((runD_spec _ S.run).2 i x hx).1 ((runD_spec _ S.run).2 c y hy).1 h1 hk hky
    exact absurd (I.dc c i hd this) hnd

theorem DInv.here (S : DSet P gl K ops tm h h0 rs w0 G0) (I : DInv P gl ops tm h h0 rs w0 G0 ds l a w G p t) (hx : rs[i]? = some x) (hk : kdOf x.o.op = .eff) (hnd : ¬ doneB l i) (hdown : ∀ j, (msAt ops.toList i).testBit j = true → doneB l j) : hpre rs h0 i = hpre rs h0 p := by
  refine S.const i ?_ ?_
  · rcases I.pz with h1 | ⟨c, y, hy, hky, h1⟩
    · omega
    · have := I.notAfter S hx hk hnd hy hky ((I.pe c y hy hky).2 (by omega))
      omega
  · intro c y h1 h2 hy hky
    have := S.ok.eff c i y.o x.o ((runD_spec _ S.run).2 c y hy).1 ((runD_spec _ S.run).2 i x hx).1 h2 hky hk
    have := (I.pe c y hy hky).1 (hdown c this)
    omega

theorem DInv.add (S : DSet P gl K ops tm h h0 rs w0 G0) (I : DInv P gl ops tm h h0 rs w0 G0 ds l a w G p t) (hx : rs[i]? = some x) (hnd : ¬ doneB l i) (hi : i < ops.size) (hdown : ∀ j, (msAt ops.toList i).testBit j = true → doneB l j)
    {p' : Nat} (hp' : p' = if kdOf x.o.op = .eff then i + 1 else p) {v : Value} {w' : World} {G' : Gh} (hv : VR w' G' x.r v) (hgood : Good (tabOf P gl) G' (hpre rs h0 p') w') (hstep : Step G w G' w')
    (hun : ∀ b, b < (hpre rs h0 p).n → G.m b = none → G.g b = none → (kdOf x.o.op = .alloc → b ≠ naAt h.n ops.toList i) → G'.m b = none ∧ G'.g b = none ∧ (hpre rs h0 p').get b = (hpre rs h0 p).get b)
    (hn : (hpre rs h0 p).n ≤ (hpre rs h0 p').n) : DInv P gl ops tm h h0 rs w0 G0 ds (l.setIfInBounds i true) (a.put x.o.dst v) w' G' p' (putA x.o.dst x.r t) := by
  have hil : i < l.size := by rw [I.size]; exact hi
  have hspec := (runD_spec _ S.run).2
  refine ⟨by simp [I.size], ?_, ?_, ?_, ?_, ?_, ?_, hgood, I.step.trans hstep, ?_, Nat.le_trans I.n hn, ?_⟩
  · intro c j hc hb
    rw [doneB_set hil] at hc ⊢
    rcases hc with hc | rfl
    · exact .inl (I.dc c j hc hb)
    · exact .inl (hdown j hb)
  · exact (I.tmd.put hx (fun j y d hy e1 e2 => S.inj j i y x d hy hx e2 e1) hnd).congr (fun j _ => (doneB_set hil).symm)
  · exact put_ok (VRL.mono hstep _ _ I.vrl) hv
  · exact (put_defers _ _ _).trans I.defers
  · rw [hp']
    split
    · rename_i hk; exact .inr ⟨i, x, hx, hk, rfl⟩
    · exact I.pz
  · intro c y hy hky
    rw [doneB_set hil, hp']
    split
    · rename_i hk
      constructor
      · rintro (hd | rfl)
        · have := I.notAfter S hx hk hnd hy hky hd; omega
        · omega
      · intro hlt
        by_cases hci : c = i
        · exact .inr hci
        · exact .inl (hdown c (S.ok.eff c i y.o x.o (hspec c y hy).1 (hspec i x hx).1 (by omega) hky hk))
    · rename_i hk
      rw [← I.pe c y hy hky]
      constructor
      · rintro (hd | rfl)
        · exact hd
        · rw [hx] at hy; injection hy with hy; subst hy; exact absurd hky hk
      · exact .inl
  · intro b hb h1 h2
    obtain ⟨u1, u2, u3⟩ := I.unm b hb h1 h2
    have hge := naAt_ge ops.toList h.n i
    obtain ⟨v1, v2, v3⟩ := hun b (Nat.lt_of_lt_of_le hb I.n) u1 u2 (fun _ => by omega)
    exact ⟨v1, v2, v3.trans u3⟩
  · intro j y hy hky hnj
    rw [doneB_set hil] at hnj
    have hnj1 : ¬ doneB l j := fun h => hnj (.inl h)
    have hji : j ≠ i := fun h => hnj (.inr h)
    obtain ⟨u1, u2, u3⟩ := I.pend j y hy hky hnj1
    obtain ⟨tt, htt⟩ := opA_alloc hky
    obtain ⟨z, _, hz⟩ := (preAlloc_spec _ S.pre).2.2.2 j y.o (hspec j y hy).1 tt htt
    have hlt : naAt h.n ops.toList j < (hpre rs h0 p).n := Heap.get_lt (u3.trans hz)
    obtain ⟨v1, v2, v3⟩ := hun _ hlt u1 u2 (fun hka => naAt_inj (hspec j y hy).1 (hspec i x hx).1 hky hka hji)
    exact ⟨v1, v2, v3.trans u3⟩

theorem DInv.agree (S : DSet P gl K ops tm h h0 rs w0 G0) (I : DInv P gl ops tm h h0 rs w0 G0 ds l a w G p t) (hx : rs[i]? = some x) (hnd : ¬ doneB l i) (hdown : ∀ j, (msAt ops.toList i).testBit j = true → doneB l j) : ∀ d ∈ tmpsOf ops.toList x.o, t[d]? = x.tm[d]? := by
  intro d hd
  have hspec := (runD_spec _ S.run).2
  rw [(hspec i x hx).2.2.1]
  refine I.tmd.agree (finT_TmD S.inj i) d ?_
  intro j y hy hyd
  obtain ⟨h1, h2⟩ := S.ok.loc i j x.o y.o d (hspec i x hx).1 (hspec j y hy).1 hyd hd
  constructor
  · intro hj
    rcases Nat.lt_trichotomy j i with h3 | h3 | h3
    · exact h3
    · subst h3; exact absurd hj hnd
    · exact absurd (I.dc j i hj (h2 h3)) hnd
  · intro hj
    exact hdown j (h1 hj)

theorem draw_step (hK : CallSound P gl K) (S : DSet P gl K ops tm h h0 rs w0 G0) (I : DInv P gl ops tm h h0 rs w0 G0 ds l a w G p t) (hi : i ∈ Region.ready .any ops l) {Q : Exit → Act → World → Prop} {next : Act → World → Prop}
    (hnext : ∀ a' w' G' p' t', DInv P gl ops tm h h0 rs w0 G0 ds (l.setIfInBounds i true) a' w' G' p' t' → next a' w') : wpOp P ops Q i next a w := by
  obtain ⟨o, ho, hnd, hlt, hedges⟩ := ready_spec I.size hi
  obtain ⟨x, hx, rfl⟩ := S.at ho
  have hspec := (runD_spec _ S.run).2
  obtain ⟨g1, g2, g3, g4, g5, g6⟩ := hspec i x hx
  have hdown : ∀ j, (msAt ops.toList i).testBit j = true → doneB l j := by
    intro j hj
    obtain ⟨e, he1, he2, he3⟩ := masks_bits g1 hj
    have hd := hedges e he1 he2
    rcases he3 with rfl | he3
    · exact hd
    · exact I.dc _ _ hd he3
  have hag := I.agree S hx hnd hdown
  have hwant : wantA ops.toList t x.o = some x.want := (wantA_congr hag).trans g2
  unfold wpOp
  rw [ho]
  simp only
  rw [want_ok I.vrl hwant]
  have hheap : kdOf x.o.op = .eff → x.hp = hpre rs h0 p := fun hk => g4.trans (I.here S hx hk hnd hdown)
  cases hw : x.want with
  | false =>
    simp only [Bool.false_eq_true, if_false]
    obtain ⟨h1, h2⟩ := g6 hw
    have he : hpre rs h0 (if kdOf x.o.op = .eff then i + 1 else p) = hpre rs h0 p := by
      split
      · rename_i hk; rw [hpre_next hx, h2, hheap hk]
      · rfl
    refine hnext _ _ G _ _ (I.add S hx hnd hlt hdown rfl (v := undef) (by rw [h1]; rfl) (by rw [he]; exact I.good) (Step.refl _ _) (fun b _ u1 u2 _ => ⟨u1, u2, by rw [he]⟩) (by rw [he]; exact Nat.le_refl _))
  | true =>
    simp only [if_true]
    left
    have h5 := g5 hw
    by_cases hka : kdOf x.o.op = .alloc
    · obtain ⟨tt, htt⟩ := opA_alloc hka
      obtain ⟨u1, u2, u3⟩ := I.pend i x hx hka hnd
      obtain ⟨z, hz, hgz⟩ := (preAlloc_spec _ S.pre).2.2.2 i x.o g1 tt htt
      obtain ⟨v, w', r1, r2, r3, r4⟩ := alloc_run_at I.good hz (u3.trans hgz) u1 u2
      have hr : x.r = .ptr (naAt h.n ops.toList i) 0 := by
        unfold opD at h5
        rw [hka] at h5
        simp at h5
        exact h5.1.symm
      have hpp : (if kdOf x.o.op = .eff then i + 1 else p) = p := by rw [hka]; rfl
      have hrun : (execOp a.eval x.o).run P w = .ok (.value v) w' := by
        simp only [execOp, htt, Sem.run_bind, r1, Result.andThen_ok, Sem.run_pure]
      unfold Oper.wp
      rw [hrun]
      refine hnext _ _ _ _ _ (I.add S hx hnd hlt hdown rfl (v := v) (by rw [hr]; exact r2) (by rw [hpp]; exact r3) r4 ?_ (by rw [hpp]; exact Nat.le_refl _))
      intro b _ m1 m2 hne
      refine ⟨?_, m2, by rw [hpp]⟩
      show (if b = _ then _ else _) = _
      rw [if_neg (hne hka)]
      exact m1
    · have h6 : opA (tabOf P gl) K (evA (tabOf P gl) x.tm) x.o x.hp = some (x.r, x.hq) := by
        unfold opD at h5
        split at h5
        · rename_i hk; exact absurd hk hka
        · exact h5
      have hop : opA (tabOf P gl) K (evA (tabOf P gl) t) x.o (hpre rs h0 p) = some (x.r, hpre rs h0 (if kdOf x.o.op = .eff then i + 1 else p)) := by
        rw [opA_congr _ (evA_congr (T := tabOf P gl) hag)]
        cases hk : kdOf x.o.op with
        | alloc => exact absurd hk hka
        | eff => rw [if_pos rfl, hpre_next hx, ← hheap hk]; exact h6
        | pure => rw [if_neg (by simp)]; exact (opA_pure hk h6).2 _
        | read =>
          rw [if_neg (by simp)]
          refine sameRead_eq hk ?_
          obtain ⟨c1, c2⟩ := checkD_spec rs 0 S.chk i x hx hk hw
          rw [Nat.zero_add] at c1 c2
          have hf : feas (masks ops.toList) (effsOf 0 rs) i p = true := by
            unfold feas
            rw [List.all_eq_true]
            rintro ⟨c, hh⟩ hc
            obtain ⟨k, y, hy, hck, hky, _⟩ := (effsOf_mem rs 0 c hh).1 hc
            rw [Nat.zero_add] at hck
            subst hck
            simp only [Bool.and_eq_true, Bool.or_eq_true, Bool.not_eq_true', decide_eq_true_eq]
            constructor
            · cases hb : ((masks ops.toList).getD i 0).testBit c with
              | false => exact .inl rfl
              | true => exact .inr ((I.pe c y hy hky).1 (hdown c hb))
            · cases hb : ((masks ops.toList).getD c 0).testBit i with
              | false => exact .inl rfl
              | true =>
                right
                rcases Nat.lt_or_ge c p with hlt2 | hge
                · exact absurd (I.dc c i ((I.pe c y hy hky).2 hlt2) hb) hnd
                · exact hge
          rcases I.pz with hp0 | ⟨c, y, hy, hky, hpc⟩
          · have := c1 (by rw [hp0] at hf; exact hf)
            rw [hp0]; exact this
          · have := c2 (c, y.hq) ((effsOf_mem rs 0 c y.hq).2 ⟨c, y, hy, by omega, hky, rfl⟩) (by rw [show (c, y.hq).1 + 1 = p from hpc.symm]; exact hf)
            rw [hpc, hpre_next hy]; exact this
      refine op_sound hK I.good (evOk I.good I.vrl) hop ?_
      intro v w' G' hv hx'
      refine hnext _ _ _ _ _ (I.add S hx hnd hlt hdown rfl hv hx'.good hx'.step ?_ hx'.n)
      intro b hb m1 m2 _
      exact hx'.unm b hb m1 m2
end

theorem draw_end (S : DSet P gl K ops tm h h0 rs w0 G0) {l : Array Bool} {a : Act} {w : World} {G : Gh} {p : Nat} {t : List AV} (I : DInv P gl ops tm h h0 rs w0 G0 ds l a w G p t) (hall : ∀ i, i < ops.size → doneB l i) :
    VRL w G (finT rs tm) a.tmps.toList ∧ Nx (tabOf P gl) G0 h w0 G (finH rs h0) w := by
  have hlen : rs.length = ops.size := by rw [(runD_spec _ S.run).1, Array.length_toList]
  have hin : ∀ {i : Nat} {x : Rec}, rs[i]? = some x → i < ops.size := fun hx => by rw [← hlen]; exact (List.getElem?_eq_some_iff.1 hx).1
  have ht : t = finT rs tm := by
    refine List.ext_getElem? fun d => ?_
    have h2 := finT_TmD (tm := tm) S.inj rs.length
    rw [List.take_length] at h2
    exact I.tmd.agree h2 d (fun i x hx _ => ⟨fun _ => by have := hin hx; omega, fun _ => hall i (hin hx)⟩)
  have hh : finH rs h0 = hpre rs h0 p := by
    have : hpre rs h0 rs.length = hpre rs h0 p := by
      refine S.const rs.length ?_ ?_
      · rcases I.pz with h1 | ⟨c, y, hy, _, h1⟩
        · omega
        · have := (List.getElem?_eq_some_iff.1 hy).1; omega
      · intro c y h1 _ hy hky
        have := (I.pe c y hy hky).1 (hall c (hin hy))
        omega
    rw [← this]; unfold hpre; rw [List.take_length]
  refine ⟨ht ▸ I.vrl, ?_⟩
  rw [hh]
  exact ⟨I.good, I.step, I.unm, I.n⟩

theorem draw_any (hK : CallSound P gl K) (S : DSet P gl K ops tm h h0 rs w0 G0) {Q : Exit → Act → World → Prop}
    (fin : ∀ a' w' G', VRL w' G' (finT rs tm) a'.tmps.toList → a'.defers = ds → Nx (tabOf P gl) G0 h w0 G' (finH rs h0) w' → Q .normal a' w') :
    ∀ (fuel : Nat) {l : Array Bool} {a : Act} {w : World} {G : Gh} {p : Nat} {t : List AV}, DInv P gl ops tm h h0 rs w0 G0 ds l a w G p t → l.toList.countP (! ·) ≤ fuel → wpAny P .any ops Q fuel l a w
  | 0, l, a, w, G, p, t, I, hc => by
    have hall : ∀ i, i < ops.size → doneB l i := by
      intro i hi
      have h0 : l.toList.countP (! ·) = 0 := by omega
      rw [List.countP_eq_zero] at h0
      have hil : i < l.size := by rw [I.size]; exact hi
      have := h0 l[i] (by simp)
      unfold doneB
      simp only [Array.getD_eq_getD_getElem?, Array.getElem?_eq_getElem hil, Option.getD_some]
      simpa using this
    refine ⟨?_, ?_⟩
    · cases hr : Region.ready .any ops l with
      | nil => rfl
      | cons i is =>
        obtain ⟨_, _, hnd, hlt, _⟩ := ready_spec I.size (i := i) (by rw [hr]; simp)
        exact absurd (hall i hlt) hnd
    · obtain ⟨h1, h2⟩ := draw_end S I hall
      exact fin a w G h1 I.defers h2
  | fuel + 1, l, a, w, G, p, t, I, hc => by
    refine ⟨fun hr => ?_, fun i hi => ?_⟩
    · obtain ⟨h1, h2⟩ := draw_end S I (fun i hi => by
        have := ready_nil I.size S.ok hr i hi
        have hil : i < l.size := by rw [I.size]; exact hi
        unfold doneB
        simp only [Array.getD_eq_getD_getElem?, Array.getElem?_eq_getElem hil, Option.getD_some] at this ⊢
        exact this)
      exact fin a w G h1 I.defers h2
    · refine draw_step hK S I hi ?_
      intro a' w' G' p' t' I'
      refine draw_any hK S fin fuel I' ?_
      obtain ⟨_, _, hnd, hlt, _⟩ := ready_spec I.size hi
      have hil : i < l.toList.length := by rw [Array.length_toList, I.size]; exact hlt
      have hf : l.toList[i] = false := by
        unfold doneB at hnd
        simp only [Array.getD_eq_getD_getElem?, Array.getElem?_eq_getElem (show i < l.size from hil), Option.getD_some] at hnd
        simpa using hnd
      rw [Array.toList_setIfInBounds, List.countP_set hil]
      simp only [hf, Bool.not_false, if_true, Bool.not_true, Bool.false_eq_true, if_false]
      omega

theorem draw_sound (hm : P.follows .mixedOrders = true) (hK : CallSound P gl K) : DrawSound P gl K := by
  intro ops hok tm h tm' h' hd w G a Q hg ht fin id
  unfold drawA at hd
  split at hd
  · rename_i h0 hpre
    split at hd
    · rename_i rs hrun
      split at hd
      · rename_i hchk
        simp at hd
        obtain ⟨rfl, rfl⟩ := hd
        have hx0 := Nx.drawn hg (w.drawn + 1)
        have S : DSet P gl K ops tm h h0 rs { w with drawn := w.drawn + 1 } G := ⟨DOk.of hok, hpre, hrun, hchk, hx0.good⟩
        obtain ⟨p1, p2, p3, p4⟩ := preAlloc_spec _ hpre
        have hnone : ∀ b, h.n ≤ b → G.m b = none ∧ G.g b = none := by
          intro b hb
          constructor
          · cases e : G.m b with
            | none => rfl
            | some c => have := hg.m_lt e; omega
          · cases e : G.g b with
            | none => rfl
            | some c => have := hg.g_lt e; omega
        have hnd : ∀ i, ¬ doneB (Array.replicate ops.size false) i := by
          intro i hdn
          unfold doneB at hdn
          simp only [Array.getD_eq_getD_getElem?, Array.getElem?_replicate] at hdn
          split at hdn <;> simp at hdn
        have e0 : AM.hpre rs h0 0 = h0 := rfl
        have I : DInv P gl ops tm h h0 rs { w with drawn := w.drawn + 1 } G a.defers (Array.replicate ops.size false) a { w with drawn := w.drawn + 1 } G 0 tm := by
          refine ⟨by simp, fun i j hdn => absurd hdn (hnd i), TmD.nil _ _ hnd, VRL.mono hx0.step _ _ ht, rfl, .inl rfl, ?_, p3 _ _ hx0.good, Step.refl _ _, ?_, p1, ?_⟩
          · intro c x _ _
            exact ⟨fun hdn => absurd hdn (hnd c), fun hc => by omega⟩
          · intro b hb m1 m2
            exact ⟨m1, m2, p2 b hb⟩
          · intro i x hx hk _
            obtain ⟨m1, m2⟩ := hnone _ (naAt_ge ops.toList h.n i)
            exact ⟨m1, m2, rfl⟩
        refine wp_region_any hm (draw_any hK S ?_ ops.size I ?_)
        · intro a' w' G' h1 h2 h3
          exact fin a' w' G' h1 h2 (hx0.trans h3)
        · refine Nat.le_trans List.countP_le_length ?_
          simp
      · cases hd
    · cases hd
  · cases hd

end
end Go.Proofs.YtfckkiebffmkfaaGreatDoor.AM
