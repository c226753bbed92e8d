/- The answer of a function that copies a slice. -/
import Derived.Test.YtfckkiebffmkfaaGreatDoorA20
import Derived.Test.YtfckkiebffmkfaaGreatDoorB1
import Derived.KernelRfl
namespace Go.Proofs.YtfckkiebffmkfaaGreatDoor.AM
open Go Go.RowKit

section
variable {T : Tab} {G : Gh} {h : Heap} {w : World}

/-- A new abstract block comes to lie in a new block that is longer than it. -/
theorem Nx.realR (hg : Good T G h w) {cs : List AV} {l rest : List Value} {arr : Array Value} (hl : VRL w G cs l) (harr : arr.toList = l ++ rest) (ty : TypeId) :
    Nx T G h w (G.real h.n w.heap.size) (h.push (.cells cs)) (w.alloc (.cells arr ty)) ∧ (G.real h.n w.heap.size).m h.n = some w.heap.size := by
  have hm : G.m h.n = none := by
    cases e : G.m h.n with
    | none => rfl
    | some c => have := hg.m_lt e; omega
  have hgn : G.g h.n = none := by
    cases e : G.g h.n with
    | none => rfl
    | some c => have := hg.g_lt e; omega
  have hp := hg.push (.cells cs)
  have hs : Step G w (G.real h.n w.heap.size) (w.alloc (.cells arr ty)) := by
    refine ⟨rfl, fun b' c hb' => ?_, fun _ i h => ⟨i, h, .inl rfl⟩, fun _ _ h => h, fun c o hso => ?_, below_alloc _ _ _ hg.Bsz, fun _ _ h => .inl h⟩
    · show (if b' = h.n then _ else _) = _
      rw [if_neg (fun e => by subst e; rw [hm] at hb'; cases hb')]
      exact hb'
    · exact World.cell?_alloc_lt w _ _ (hg.S c o hso)
  have hgood : Good T (G.real h.n w.heap.size) (h.push (.cells cs)) (w.alloc (.cells arr ty)) := by
    refine hp.next hs ?_ ?_ ?_ hg.ginj ?_ ?_
    · intro b' c hb'
      by_cases e : b' = h.n
      · subst e
        have hc : w.heap.size = c := by simpa [Gh.real] using hb'
        subst hc
        refine .inr ⟨hg.Bsz, ?_⟩
        rw [Heap.get_push_new]
        exact ⟨fun o ho => by have := hg.S _ _ ho; omega, arr, ty, (0, 0), l, rest, heap_alloc_new _ _, .inl rfl, harr, hl.mono hs⟩
      · have hb'' : G.m b' = some c := by simpa [Gh.real, e] using hb'
        exact .inl ⟨hb'', rfl, heap_alloc_old _ _ (hg.m b' c hb'').2.lt, fun _ h => h⟩
    · intro b1 b2 c h1 h2
      by_cases e1 : b1 = h.n <;> by_cases e2 : b2 = h.n
      · rw [e1, e2]
      · subst e1
        have hc : w.heap.size = c := by simpa [Gh.real] using h1
        have h2' : G.m b2 = some c := by simpa [Gh.real, e2] using h2
        have := (hg.m b2 c h2').2.lt
        omega
      · subst e2
        have hc : w.heap.size = c := by simpa [Gh.real] using h2
        have h1' : G.m b1 = some c := by simpa [Gh.real, e1] using h1
        have := (hg.m b1 c h1').2.lt
        omega
      · exact hg.inj b1 b2 c (by simpa [Gh.real, e1] using h1) (by simpa [Gh.real, e2] using h2)
    · intro b' i hb'
      obtain ⟨_, sz, _, h3⟩ := hg.g b' i hb'
      exact .inl ⟨hb', rfl, heap_alloc_old _ _ h3.lt, fun _ h => h⟩
    · intro b1 c b2 i h1 h2
      by_cases e : b1 = h.n
      · subst e
        have hc : w.heap.size = c := by simpa [Gh.real] using h1
        obtain ⟨_, sz, _, h3⟩ := hg.g b2 i h2
        have := h3.lt
        omega
      · exact hg.mg b1 c b2 i (by simpa [Gh.real, e] using h1) h2
    · intro c o ho
      have := hg.S c o ho
      simp
      omega
  refine ⟨⟨hgood, hs, fun b hb h3 h4 => ⟨?_, h4, Heap.get_push_old h _ hb⟩, by simp [Heap.push]⟩, by simp [Gh.real]⟩
  simp [Gh.real, h3]
  omega
end

section
variable {P : Program} {gl : Nat → Option (List AV)} {G : Gh} {h : Heap} {w : World}

/-- A slice appended to an empty one that is its own: a copy, in a new block. -/
theorem clone_append {t ty e k by_ sz : Nat} {z : AV} {els : List AV} {own : Own} {vx vy : Value} (hg : Good (tabOf P gl) G h w) (hel : elP P t = some (e, k, by_)) (hz : zrP P e = some z) (hzl : (cellsOf z).length = k)
    (hb : 0 < by_) (hne : els ≠ []) (hsz : sz = k) (hroom : els.length * by_ ≤ roomMax) (hx : VR w G (.vs k [] .full) vx) (hy : VR w G (.vs sz els own) vy) :
    ∃ v w' G', (Builtin.append_ #[t, t] ty #[vx, vy]).run P w = .ok v w' ∧ VR w' G' (.hs k h.n 0 els.length) v ∧ Nx (tabOf P gl) G h w G' (h.push (.cells (els.flatMap cellsOf))) w' := by
  obtain ⟨i, hu, hi, hsi, hby⟩ := elP_some hel
  obtain ⟨i', zv, hi', hzu, hzv⟩ := zrP_some hz
  rw [hi] at hi'
  simp at hi'; subst hi'
  obtain ⟨a, cap, l, rfl, hcap, hown, hvl, hll, hrunl, hcl⟩ := vs_cells (P := P) hx 0 k rfl (.inl rfl)
  obtain ⟨a1, cap1, l1, rfl, hcap1, hown1, hvl1, hll1, hrunl1, hcl1⟩ := vs_cells (P := P) hy els.length k rfl (.inr hsz)
  have hc0 : cap = 0 := hown.1
  subst hc0
  have hl0 : l = [] := by simpa using hll
  subst hl0
  have hpos : 0 < els.length := List.length_pos_iff.2 hne
  have hrun := run_append (P := P) (w := w) (ty := ty) hu hi hzu a 0 0 els.length a1 cap1 [] l1 hpos (by omega)
    (fun W hW => by rw [hsi]; exact hrunl W (fun c o _ => by simp [World.cell?, hW])) (fun W hW => by rw [hsi]; exact hrunl1 W (fun c o _ => by simp [World.cell?, hW])) (by omega) (by rw [hby, Nat.zero_add]; exact hroom)
  have hd := Nx.drawn hg (w.drawn + 1)
  obtain ⟨hn, hmm⟩ := Nx.realR hd.good (VRL.mono hd.step _ _ hvl1) (arr := [].toArray ++ l1.toArray ++ Builtin.zeroCells zv.cells (grownCap w (0 + els.length) 0 e - (0 + els.length))) (rest := (Builtin.zeroCells zv.cells (grownCap w (0 + els.length) 0 e - (0 + els.length))).toList) (by simp) e
  have hge := grownCap_ge w (0 + els.length) 0 e
  refine ⟨_, _, _, hrun, ?_, hd.trans hn⟩
  exact ⟨w.heap.size, grownCap w (0 + els.length) 0 e, hmm, by simp, by simpa using hge⟩

theorem step_val {o : Oper} {a : Act} {v : Value} {w' : World} {next : Act → World → Prop} {Q : Exit → Act → World → Prop} (hr : (execOp a.eval o).run P w = .ok (.value v) w') (hn : next (a.put o.dst v) w') : o.wp P a w next Q := by
  unfold Oper.wp; rw [hr]; exact hn

theorem wpList_val {ops : Array Oper} {o : Oper} {rest : List Oper} {a : Act} {v : Value} {w' : World} {Q : Exit → Act → World → Prop} (hgd : o.guard = none) (hr : (execOp a.eval o).run P w = .ok (.value v) w') (hn : wpList P ops Q rest (a.put o.dst v) w') : wpList P ops Q (o :: rest) a w := by
  unfold wpList
  have : Region.wanted o (yielded ops a.tmps) = true := by simp [Region.wanted, hgd]
  rw [this]
  exact .inl (step_val hr hn)

def cloneCode (t : Nat) : Code :=
  (Code.region 0 #[{ dst := some 2, op := Op.assign (Operand.const (Value.slice none 0 0)), type := t, pos := "slices.go:355", after := #[], guard := none }] false).seq
  (((Code.region 1 #[{ dst := some 3, op := Op.move (Operand.tmp 0), type := t, pos := "slices.go:357", after := #[], guard := none }, { dst := some 4, op := Op.binOp BinOp.eql t (Operand.tmp 3) (Operand.const (Value.slice none 0 0)) t, type := 4, pos := "slices.go:357", after := #[{ on := 0, ground := Ground.data }], guard := none }] false).seq
    (Code.cond (Operand.tmp 4) ((Code.region 2 #[{ dst := some 2, op := Op.assign (Operand.const (Value.slice none 0 0)), type := t, pos := "slices.go:358", after := #[], guard := none }] false).seq Code.ret) Code.skip)).seq
  ((Code.region 3 #[{ dst := some 5, op := Op.buildSlice t 0 #[], type := t, pos := "slices.go:362", after := #[], guard := none }, { dst := some 6, op := Op.move (Operand.tmp 0), type := t, pos := "slices.go:362", after := #[], guard := none }, { dst := some 7, op := Op.call { callee := Callee.builtin Builtin.append, args := #[Operand.tmp 5, Operand.tmp 6], argTypes := #[t, t] }, type := t, pos := "slices.go:362", after := #[{ on := 0, ground := Ground.data }, { on := 1, ground := Ground.data }], guard := none }, { dst := some 2, op := Op.assign (Operand.tmp 7), type := t, pos := "slices.go:362", after := #[{ on := 2, ground := Ground.data }, { on := 2, ground := Ground.chain }, { on := 0, ground := Ground.phase }, { on := 1, ground := Ground.phase }, { on := 2, ground := Ground.phase }], guard := none }] false).seq Code.ret))

theorem run_slice_nil {t e : Nat} (hut : P.underlying t = some (.slice e)) (a : Option Addr) (n cap : Nat) : (Op.equalIn Op.maxDepth t (.slice a n cap) (.slice none 0 0)).run P w = .ok a.isNone w := by
  have key : ∀ d, (Op.equalIn (d + 1) t (.slice a n cap) (.slice none 0 0)).run P w = .ok a.isNone w := by
    intro d
    cases a <;> simp only [Op.equalIn, Sem.run_bind, run_underlying hut, Result.andThen_ok] <;> simp
  exact key 9999

/-- A normal end of such a function. -/
theorem clone_end {fn : Func} {R : Ending → World → Prop} (hres : fn.results = #[.tmp 2]) {x0 x1 v x3 x4 x5 x6 x7 : Value} {w : World} (hR : R (.returned v) w) : bodyPost P fn R .ret { tmps := #[x0, x1, v, x3, x4, x5, x6, x7], defers := [] } w := by
  refine ⟨rfl, v, ?_, hR⟩
  simp [results, hres]

section
variable {f t e : Nat} {fn : Func} {R : Ending → World → Prop} {n cap : Nat}

theorem clone_head (hfn : P.funcs[f]? = some fn) (hbody : fn.body = some (cloneCode t)) (hn : fn.ntmps = 8) (hut : P.underlying t = some (.slice e)) {a : Option Addr}
    (h : Code.wp P (Code.cond (Operand.tmp 4) ((Code.region 2 #[{ dst := some 2, op := Op.assign (Operand.const (Value.slice none 0 0)), type := t, pos := "slices.go:358", after := #[], guard := none }] false).seq Code.ret) Code.skip)
      (Exit.then (Code.wp P ((Code.region 3 #[{ dst := some 5, op := Op.buildSlice t 0 #[], type := t, pos := "slices.go:362", after := #[], guard := none }, { dst := some 6, op := Op.move (Operand.tmp 0), type := t, pos := "slices.go:362", after := #[], guard := none }, { dst := some 7, op := Op.call { callee := Callee.builtin Builtin.append, args := #[Operand.tmp 5, Operand.tmp 6], argTypes := #[t, t] }, type := t, pos := "slices.go:362", after := #[{ on := 0, ground := Ground.data }, { on := 1, ground := Ground.data }], guard := none }, { dst := some 2, op := Op.assign (Operand.tmp 7), type := t, pos := "slices.go:362", after := #[{ on := 2, ground := Ground.data }, { on := 2, ground := Ground.chain }, { on := 0, ground := Ground.phase }, { on := 1, ground := Ground.phase }, { on := 2, ground := Ground.phase }], guard := none }] false).seq Code.ret) (bodyPost P fn R)) (bodyPost P fn R))
      { tmps := #[.slice a n cap, undef, .slice none 0 0, .slice a n cap, .bool a.isNone, undef, undef, undef], defers := [] } w) :
    Calls P f #[.slice a n cap] w R := by
  refine calls_of_wp hfn hbody ?_
  rw [hn]
  unfold cloneCode
  refine wp_seq (wp_region_list (wpList_val rfl (v := .slice none 0 0) (w' := w) (by simp [execOp, Act.eval]) ?_))
  show Code.wp P _ _ _ _
  refine wp_seq (wp_seq (wp_region_list (wpList_val rfl (v := .slice a n cap) (w' := w) (by simp [execOp, Act.eval, Act.put]) (wpList_val rfl (v := .bool a.isNone) (w' := w) (by
    simp [execOp, Act.eval, Act.put, eqGuard, binOp, Op.equal, run_slice_nil hut]) ?_))))
  exact h

theorem clone_nil (hfn : P.funcs[f]? = some fn) (hbody : fn.body = some (cloneCode t)) (hres : fn.results = #[.tmp 2]) (hn : fn.ntmps = 8) (hut : P.underlying t = some (.slice e)) (hR : R (.returned (.slice none 0 0)) w) :
    Calls P f #[.slice none n cap] w R := by
  refine clone_head hfn hbody hn hut ?_
  refine wp_cond_true (by simp [Act.eval]) ?_
  refine wp_seq (wp_region_list (wpList_val rfl (v := .slice none 0 0) (w' := w) (by simp [execOp, Act.eval]) ?_))
  exact wp_ret (clone_end hres hR)

theorem clone_some (hfn : P.funcs[f]? = some fn) (hbody : fn.body = some (cloneCode t)) (hres : fn.results = #[.tmp 2]) (hn : fn.ntmps = 8) (hut : P.underlying t = some (.slice e)) {ad : Addr} {vx v : Value} {w1 w2 : World}
    (hr1 : (Instr.buildSlice t 0 #[]).run P w = .ok vx w1) (hr2 : (Builtin.append_ #[t, t] t #[vx, .slice (some ad) n cap]).run P w1 = .ok v w2) (hR : R (.returned v) w2) :
    Calls P f #[.slice (some ad) n cap] w R := by
  refine clone_head hfn hbody hn hut ?_
  refine wp_cond_false (by simp [Act.eval]) (wp_skip ?_)
  refine wp_seq (wp_region_list (wpList_val rfl (v := vx) (w' := w1) (by simp [execOp, hr1]) (wpList_val rfl (v := .slice (some ad) n cap) (w' := w1) (by simp [execOp, Act.eval, Act.put]) (wpList_val rfl (v := v) (w' := w2) ?_ (wpList_val rfl (v := v) (w' := w2) (by simp [execOp, Act.eval, Act.put]) ?_)))))
  · simp [execOp, resolve, invoke, Act.eval, Act.put, builtin, hr2]
  · exact wp_ret (clone_end hres hR)
end

theorem clone_sound {f t e k by_ : Nat} {z : AV} {fn : Func} (hfn : P.funcs[f]? = some fn) (hname : (fn.name == "runtime.NumGoroutine") = false) (hbody : fn.body = some (cloneCode t)) (hres : fn.results = #[.tmp 2]) (hn : fn.ntmps = 8)
    (hel : elP P t = some (e, k, by_)) (hz : zrP P e = some z) (hzl : (cellsOf z).length = k) (hb : 0 < by_) :
    CallSound P gl (fun f' args h => if f' = f then cloneA k by_ args h else none) := by
  intro f' args h r h' hk
  dsimp only at hk
  by_cases hff : f' = f
  case neg => rw [if_neg hff] at hk; cases hk
  rw [if_pos hff] at hk
  subst hff
  refine ⟨⟨fn, _, hfn, hname, hbody⟩, ?_⟩
  intro w G vals hg hv
  match args, hk, hv with
  | [.vs sz els own], hk, hv =>
    obtain ⟨vy, vs, rfl, hy, hvs⟩ := hv
    have : vs = [] := hvs
    subst this
    have hy0 := hy
    obtain ⟨hu, a, cap, rfl, hcap, hown, hrow⟩ := hy
    obtain ⟨i, hut, hi, hsi, hby⟩ := elP_some hel
    cases a with
    | none =>
      have hnil : els = [] := by
        cases els with
        | nil => rfl
        | cons x xs =>
          obtain ⟨c, o, hc, _⟩ := hrow (by simp)
          cases hc
      subst hnil
      simp [cloneA] at hk
      obtain ⟨rfl, rfl⟩ := hk
      refine clone_nil hfn hbody hres hn hut ?_
      exact ⟨_, G, rfl, ⟨hu, none, 0, rfl, by simp, trivial, fun h => absurd rfl h⟩, Nx.refl hg⟩
    | some ad =>
      obtain ⟨vx, w1, G1, hr1, hx1, hn1⟩ := buildSlice_run (P := P) (gl := gl) (t := t) (len := 0) (ps := #[]) (ev := fun _ => none) (ρ := fun _ => undef) hg (fun x av hx => by simp at hx) hel (r := .vs k [] .full) (by simp)
      have hr1' : (Instr.buildSlice t 0 #[]).run P w = .ok vx w1 := by simpa using hr1
      have hy1 : VR w1 G1 (.vs sz els own) (.slice (some ad) els.length cap) := VR.mono hn1.step _ _ hy0
      by_cases hnil : els = []
      · subst hnil
        simp [cloneA] at hk
        obtain ⟨rfl, rfl⟩ := hk
        obtain ⟨v, w2, G2, h1, h2, h3⟩ := append_run (P := P) (gl := gl) (t := t) (ty := t) hn1.good hel hz hzl (.inl rfl) (.inr rfl) (r := .vs k [] .full) (h' := h) (by simp [appendA]) hx1 hy1
        refine clone_some hfn hbody hres hn hut hr1' h1 ?_
        obtain ⟨g1, a2, cap2, rfl, g2, g3, g4⟩ := h2
        exact ⟨_, G2, rfl, ⟨fun x hx => by simp at hx, a2, cap2, rfl, g2, trivial, fun h => absurd rfl h⟩, hn1.trans h3⟩
      · have hk2 : sz = k ∧ els.length * by_ ≤ roomMax ∧ r = .hs k h.n 0 els.length ∧ h' = h.push (.cells (els.flatMap cellsOf)) := by
          cases els with
          | nil => exact absurd rfl hnil
          | cons x xs =>
            simp only [cloneA] at hk
            split at hk
            · rename_i hc
              simp at hk
              exact ⟨hc.1, hc.2, hk.1.symm, hk.2.symm⟩
            · cases hk
        obtain ⟨e1, e2, rfl, rfl⟩ := hk2
        obtain ⟨v, w2, G2, h1, h2, h3⟩ := clone_append (P := P) (gl := gl) (t := t) (ty := t) hn1.good hel hz hzl hb hnil e1 e2 hx1 hy1
        exact clone_some hfn hbody hres hn hut hr1' h1 ⟨_, G2, rfl, h2, hn1.trans h3⟩
  | [], hk, _ => simp [cloneA] at hk
end
end Go.Proofs.YtfckkiebffmkfaaGreatDoor.AM
