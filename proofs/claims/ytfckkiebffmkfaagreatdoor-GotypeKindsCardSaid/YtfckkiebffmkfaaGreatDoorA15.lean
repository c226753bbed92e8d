/- Calls, and regions in their written order. -/
import Derived.Test.YtfckkiebffmkfaaGreatDoorA14
import Derived.Tactics
namespace Go.Proofs.YtfckkiebffmkfaaGreatDoor.AM
open Go Go.RowKit

/-- The abstract answer to a call is the machine's. -/
def CallSound (P : Program) (gl : Nat → Option (List AV)) (K : KA) : Prop :=
  ∀ f args h r h', K f args h = some (r, h') →
    (∃ fn c, P.funcs[f]? = some fn ∧ (fn.name == "runtime.NumGoroutine") = false ∧ fn.body = some c) ∧
    ∀ (w : World) (G : Gh) (vals : List Value), Good (tabOf P gl) G h w → VRL w G args vals →
      Calls P f vals.toArray w (fun e w' => ∃ v G', e = .returned v ∧ VR w' G' r v ∧ Nx (tabOf P gl) G h w G' h' w')

section
variable {P : Program} {gl : Nat → Option (List AV)} {K : KA}

theorem op_sound (hK : CallSound P gl K) {w : World} {G : Gh} {h h' : Heap} {ev : Operand → Option AV} {a : Act} {o : Oper} {r : AV} (hg : Good (tabOf P gl) G h w) (hev : EvOk w G ev a.eval) (ho : opA (tabOf P gl) K ev o h = some (r, h'))
    {next : Act → World → Prop} {Q : Exit → Act → World → Prop} (hn : ∀ v w' G', VR w' G' r v → Nx (tabOf P gl) G h w G' h' w' → next (a.put o.dst v) w') : o.wp P a w next Q := by
  by_cases hc : ∃ c f, o.op = .call c ∧ c.callee = .value f
  · obtain ⟨c, f, h1, h2⟩ := hc
    unfold opA at ho
    rw [h1] at ho
    simp only [h2] at ho
    cases hargs : evL ev c.args.toList with
    | none => rw [hargs] at ho; simp at ho
    | some args =>
      rw [hargs] at ho
      simp only at ho
      split at ho
      · rename_i fid first captured hf
        obtain ⟨la, lb, hρ, hla, hlb⟩ := hev f _ hf
        cases hk : K fid ((first ++ args ++ captured).map fg2) h with
        | none => rw [hk] at ho; simp at ho
        | some p =>
          obtain ⟨r0, h0⟩ := p
          rw [hk] at ho
          simp at ho
          obtain ⟨rfl, rfl⟩ := ho
          obtain ⟨⟨fn, body, hfn, hname, hbody⟩, hcall⟩ := hK _ _ _ _ _ hk
          have hvals : VRL w G ((first ++ args ++ captured).map fg2) (la ++ c.args.toList.map a.eval ++ lb) :=
            VRL.map (fun _ _ h => h.fg2) ((hla.append (evL_VRL hev hargs)).append hlb)
          have hrun : (execOp a.eval o).run P w = .ok (.enter fid (la ++ c.args.toList.map a.eval ++ lb).toArray) w := by
            have e1 : (la ++ c.args.toList.map a.eval ++ lb).toArray = la.toArray ++ c.args.map a.eval ++ lb.toArray := by
              apply Array.toList_inj.1; simp
            rw [e1]
            simp only [execOp, h1, resolve, h2, hρ, Deferred.ofValue, Sem.run_bind, Sem.run_pure, Result.andThen_ok, invoke, callFunc]
            have hname' : ¬ fn.name = "runtime.NumGoroutine" := by simpa using hname
            simp [hfn, hname', hbody]
          unfold Oper.wp
          rw [hrun, Oper.upon_enter]
          refine Calls.mono (hcall w G _ hg hvals) ?_
          rintro e w' ⟨v, G', rfl, hv, hx⟩
          exact hn v w' G' hv.fg3 hx
      · cases ho
  · obtain ⟨x, v, w', G', h1, h2, h3, h4⟩ := op_run (K := K) hg hev ho (fun c f e1 e2 => hc ⟨c, f, e1, e2⟩)
    unfold Oper.wp
    rw [h1]
    rcases h2 with rfl | ⟨rfl, rfl⟩
    · exact hn v w' G' h3 h4
    · exact hn undef w' G' h3 h4

theorem want_ok {w : World} {G : Gh} {ops : Array Oper} {tm : List AV} {tmps : Array Value} {o : Oper} {b : Bool} (ht : VRL w G tm tmps.toList) (hw : wantA ops.toList tm o = some b) :
    Region.wanted o (yielded ops tmps) = b := by
  unfold wantA at hw
  unfold Region.wanted
  split at hw
  · rename_i hgd
    rw [hgd]
    simpa using hw
  · rename_i j want hgd
    rw [hgd]
    simp only
    split at hw
    · rename_i oj hj
      rw [Array.getElem?_toList] at hj
      split at hw
      · rename_i d hd
        split at hw
        · rename_i x htm
          obtain ⟨v, hv, hr⟩ := ht.get htm
          rw [Array.getElem?_toList] at hv
          have hr' : v = .bool x := hr
          simp at hw; subst hw; subst hr'
          simp [yielded, hj, hd, hv]
        · rename_i htm
          obtain ⟨v, hv, hr⟩ := ht.get htm
          rw [Array.getElem?_toList] at hv
          have hr' : v = undef := hr
          simp at hw; subst hw; subst hr'
          simp [yielded, hj, hd, hv, undef]
        · cases hw
      · cases hw
    · cases hw

theorem put_ok {w : World} {G : Gh} {tm : List AV} {a : Act} {dst : Option Tmp} {r : AV} {v : Value} (ht : VRL w G tm a.tmps.toList) (hv : VR w G r v) : VRL w G (putA dst r tm) (a.put dst v).tmps.toList := by
  cases dst with
  | none => exact ht
  | some d =>
    simp only [putA, Act.put, Array.toList_setIfInBounds]
    exact ht.set d hv

theorem put_defers (a : Act) (dst : Option Tmp) (v : Value) : (a.put dst v).defers = a.defers := by cases dst <;> rfl

theorem ops_sound (hK : CallSound P gl K) {ops : Array Oper} {Q : Exit → Act → World → Prop} : ∀ {rest : List Oper} {tm : List AV} {h : Heap} {tm' : List AV} {h' : Heap}, opsA (tabOf P gl) K ops.toList rest tm h = some (tm', h') →
    ∀ {w : World} {G : Gh} {a : Act}, Good (tabOf P gl) G h w → VRL w G tm a.tmps.toList →
      (∀ a' w' G', VRL w' G' tm' a'.tmps.toList → a'.defers = a.defers → Nx (tabOf P gl) G h w G' h' w' → Q .normal a' w') → wpList P ops Q rest a w
  | [], tm, h, tm', h', ho, w, G, a, hg, ht, fin => by
    simp [opsA] at ho
    obtain ⟨rfl, rfl⟩ := ho
    exact fin a w G ht rfl (Nx.refl hg)
  | o :: rest, tm, h, tm', h', ho, w, G, a, hg, ht, fin => by
    simp only [opsA] at ho
    split at ho
    · rename_i tm1 h1 hs
      unfold stepA at hs
      split at hs
      · rename_i hw
        simp only [wpList, want_ok ht hw, if_true]
        left
        split at hs
        · rename_i v h2 hop
          simp at hs
          obtain ⟨rfl, rfl⟩ := hs
          refine op_sound hK hg (evOk hg ht) hop ?_
          intro u w' G' hu hx
          exact ops_sound hK ho hx.good (put_ok (VRL.mono hx.step _ _ ht) hu) (fun a2 w2 G2 h1 h2 h3 => fin a2 w2 G2 h1 (h2.trans (put_defers a o.dst u)) (hx.trans h3))
        · cases hs
      · rename_i hw
        simp at hs
        obtain ⟨rfl, rfl⟩ := hs
        simp only [wpList, want_ok ht hw, Bool.false_eq_true, if_false]
        exact ops_sound hK ho hg (put_ok ht rfl) (fun a2 w2 G2 h1 h2 h3 => fin a2 w2 G2 h1 (h2.trans (put_defers a o.dst undef)) h3)
      · cases hs
    · cases ho

/-- What the answer of a region with drawn order owes. -/
def DrawSound (P : Program) (gl : Nat → Option (List AV)) (K : KA) : Prop :=
  ∀ (ops : Array Oper), drawOk ops.toList = true → ∀ {tm h tm' h'}, drawA (tabOf P gl) K ops.toList tm h = some (tm', h') →
    ∀ {w : World} {G : Gh} {a : Act} {Q : Exit → Act → World → Prop}, Good (tabOf P gl) G h w → VRL w G tm a.tmps.toList →
      (∀ a' w' G', VRL w' G' tm' a'.tmps.toList → a'.defers = a.defers → Nx (tabOf P gl) G h w G' h' w' → Q .normal a' w') →
      ∀ id, (Code.region id ops true).wp P Q a w

def exOf : Ex → Exit
  | .normal => .normal
  | .exit id => .exit id
  | .ret => .ret

/-- Every region of a text that draws its order is one that the interpreter may take in the written order. -/
def codeOk : Code → Bool
  | .region _ ops true => drawOk ops.toList
  | .seq a b => codeOk a && codeOk b
  | .cond _ a b => codeOk a && codeOk b
  | .block _ c => codeOk c
  | .loop c => codeOk c
  | _ => true

def ExecSound (P : Program) (gl : Nat → Option (List AV)) (c : Code) (f : List AV → Heap → Out) : Prop :=
  ∀ {tm h ex tm' h'}, f tm h = some (ex, tm', h') →
    ∀ {w : World} {G : Gh} {a : Act} {Q : Exit → Act → World → Prop}, Good (tabOf P gl) G h w → VRL w G tm a.tmps.toList →
      (∀ a' w' G', VRL w' G' tm' a'.tmps.toList → a'.defers = a.defers → Nx (tabOf P gl) G h w G' h' w' → Q (exOf ex) a' w') → c.wp P Q a w

theorem iter_sound {c : Code} {f : List AV → Heap → Out} (hf : ExecSound P gl c f) : ∀ (n : Nat) {tm h ex tm' h'}, iter n f tm h = some (ex, tm', h') →
    ∀ {w : World} {G : Gh} {a : Act} {Q : Exit → Act → World → Prop}, Good (tabOf P gl) G h w → VRL w G tm a.tmps.toList →
      (∀ a' w' G', VRL w' G' tm' a'.tmps.toList → a'.defers = a.defers → Nx (tabOf P gl) G h w G' h' w' → Q (exOf ex) a' w') → Code.rounds P c Q n a w
  | 0, tm, h, ex, tm', h', hi, w, G, a, Q, hg, ht, fin => by simp [iter] at hi
  | n + 1, tm, h, ex, tm', h', hi, w, G, a, Q, hg, ht, fin => by
    simp only [iter] at hi
    rw [rounds_succ]
    split at hi
    · rename_i tm1 h1 hs
      refine hf hs hg ht ?_
      intro a1 w1 G1 t1 d1 x1
      exact iter_sound hf n hi x1.good t1 (fun a2 w2 G2 t2 d2 x2 => fin a2 w2 G2 t2 (d2.trans d1) (x1.trans x2))
    · rename_i hne
      refine hf hi hg ht ?_
      intro a1 w1 G1 t1 d1 x1
      have := fin a1 w1 G1 t1 d1 x1
      cases ex with
      | normal => exact (hne _ _ hi).elim
      | exit id => exact this
      | ret => exact this

theorem exec_sound (hK : CallSound P gl K) (hD : DrawSound P gl K) (L : Nat) : ∀ (c : Code), codeOk c = true → ExecSound P gl c (exec (tabOf P gl) K L c)
  | .skip, _, tm, h, ex, tm', h', he, w, G, a, Q, hg, ht, fin => by
    simp [exec] at he
    obtain ⟨rfl, rfl, rfl⟩ := he
    exact wp_skip (fin a w G ht rfl (Nx.refl hg))
  | .region id ops draw, hc, tm, h, ex, tm', h', he, w, G, a, Q, hg, ht, fin => by
    simp only [exec] at he
    split at he
    · rename_i tm1 h1 hs
      simp at he
      obtain ⟨rfl, rfl, rfl⟩ := he
      cases draw with
      | true => exact hD ops hc (by simpa using hs) hg ht fin id
      | false => exact wp_region_list (ops_sound hK (by simpa using hs) hg ht fin)
    · cases he
  | .seq x y, hc, tm, h, ex, tm', h', he, w, G, a, Q, hg, ht, fin => by
    simp only [codeOk, Bool.and_eq_true] at hc
    simp only [exec] at he
    refine wp_seq ?_
    split at he
    · rename_i tm1 h1 hs
      refine exec_sound hK hD L x hc.1 hs hg ht ?_
      intro a1 w1 G1 t1 d1 x1
      exact exec_sound hK hD L y hc.2 he x1.good t1 (fun a2 w2 G2 t2 d2 x2 => fin a2 w2 G2 t2 (d2.trans d1) (x1.trans x2))
    · rename_i hne
      refine exec_sound hK hD L x hc.1 he hg ht ?_
      intro a1 w1 G1 t1 d1 x1
      have := fin a1 w1 G1 t1 d1 x1
      cases ex with
      | normal => exact (hne _ _ he).elim
      | exit id => exact this
      | ret => exact this
  | .cond c x y, hc, tm, h, ex, tm', h', he, w, G, a, Q, hg, ht, fin => by
    simp only [codeOk, Bool.and_eq_true] at hc
    simp only [exec] at he
    split at he
    · rename_i t hct
      have hcv : a.eval c = .bool t := evOk hg ht c _ hct
      refine wp_cond hcv ?_
      cases t with
      | true => exact exec_sound hK hD L x hc.1 (by simpa using he) hg ht fin
      | false => exact exec_sound hK hD L y hc.2 (by simpa using he) hg ht fin
    · cases he
  | .block id c, hc, tm, h, ex, tm', h', he, w, G, a, Q, hg, ht, fin => by
    simp only [codeOk] at hc
    simp only [exec] at he
    refine wp_block ?_
    split at he
    · rename_i i tm1 h1 hs
      refine exec_sound hK hD L c hc hs hg ht ?_
      intro a1 w1 G1 t1 d1 x1
      split at he
      · rename_i hi
        simp at he
        obtain ⟨rfl, rfl, rfl⟩ := he
        simpa [Exit.inBlock, exOf, hi] using fin a1 w1 G1 t1 d1 x1
      · rename_i hi
        simp at he
        obtain ⟨rfl, rfl, rfl⟩ := he
        simpa [Exit.inBlock, exOf, hi] using fin a1 w1 G1 t1 d1 x1
    · rename_i hne
      refine exec_sound hK hD L c hc he hg ht ?_
      intro a1 w1 G1 t1 d1 x1
      have := fin a1 w1 G1 t1 d1 x1
      cases ex with
      | normal => exact this
      | exit i => exact (hne _ _ _ he).elim
      | ret => exact this
  | .loop c, hc, tm, h, ex, tm', h', he, w, G, a, Q, hg, ht, fin => by
    simp only [codeOk] at hc
    simp only [exec] at he
    exact wp_loop_rounds L (iter_sound (exec_sound hK hD L c hc) L he hg ht fin)
  | .exit id, _, tm, h, ex, tm', h', he, w, G, a, Q, hg, ht, fin => by
    simp [exec] at he
    obtain ⟨rfl, rfl, rfl⟩ := he
    exact wp_exit (fin a w G ht rfl (Nx.refl hg))
  | .ret, _, tm, h, ex, tm', h', he, w, G, a, Q, hg, ht, fin => by
    simp [exec] at he
    obtain ⟨rfl, rfl, rfl⟩ := he
    exact wp_ret (fin a w G ht rfl (Nx.refl hg))
  | .rangeFunc _ _ _ _, _, tm, h, ex, tm', h', he, w, G, a, Q, hg, ht, fin => by simp [exec] at he
  | .scope _, _, tm, h, ex, tm', h', he, w, G, a, Q, hg, ht, fin => by simp [exec] at he
  | .label _, _, tm, h, ex, tm', h', he, w, G, a, Q, hg, ht, fin => by simp [exec] at he
  | .goto _, _, tm, h, ex, tm', h', he, w, G, a, Q, hg, ht, fin => by simp [exec] at he
  | .refuse _, _, tm, h, ex, tm', h', he, w, G, a, Q, hg, ht, fin => by simp [exec] at he

theorem res1_run {w : World} {G : Gh} {h : Heap} {tm : List AV} {tmps : Array Value} {rv : ResultVar} {r : AV} (hg : Good (tabOf P gl) G h w) (ht : VRL w G tm tmps.toList) (hr : res1 (tabOf P gl) tm h rv = some r) :
    ∃ v, (match rv with
      | .tmp t => (pure (tmps.getD t undef) : Sem Value)
      | .cell a t => do loadVar t (← asAddr (tmps.getD a undef))).run P w = .ok v w ∧ VR w G r v := by
  cases rv with
  | tmp t =>
    obtain ⟨v, hv, hvr⟩ := ht.get (show tm[t]? = some r from hr)
    rw [Array.getElem?_toList] at hv
    exact ⟨v, by simp [Array.getD_eq_getD_getElem?, hv], hvr⟩
  | cell a t =>
    simp only [res1] at hr
    split at hr
    · rename_i b o ha
      obtain ⟨va, hva, hvr⟩ := ht.get ha
      rw [Array.getElem?_toList] at hva
      obtain ⟨c, hm, rfl⟩ := hvr
      obtain ⟨v, h1, h2⟩ := load_run hg hr (va := .pointer (some ⟨c, o, none⟩)) ⟨c, hm, rfl⟩
      refine ⟨v, ?_, h2⟩
      simp only [Array.getD_eq_getD_getElem?, hva, Option.getD_some, asAddr, Sem.run_bind, Sem.run_pure, Result.andThen_ok]
      simpa [Instr.loadAt, Instr.sureAddr] using h1
    · cases hr

theorem resL_run {w : World} {G : Gh} {h : Heap} {tm : List AV} {tmps : Array Value} (hg : Good (tabOf P gl) G h w) (ht : VRL w G tm tmps.toList) : ∀ {rs : List ResultVar} {l : List AV}, resL (tabOf P gl) tm h rs = some l →
    ∃ vs, (rs.mapM (fun | .tmp t => pure (tmps.getD t undef) | .cell a t => do loadVar t (← asAddr (tmps.getD a undef)) : ResultVar → Sem Value)).run P w = .ok vs w ∧ VRL w G l vs
  | [], l, hr => by simp [resL] at hr; subst hr; exact ⟨[], by simp, rfl⟩
  | rv :: rs, l, hr => by
    simp only [resL] at hr
    split at hr
    · rename_i v vs h1 h2
      simp at hr; subst hr
      obtain ⟨u, hu1, hu2⟩ := res1_run hg ht h1
      obtain ⟨us, hus1, hus2⟩ := resL_run hg ht h2
      refine ⟨u :: us, ?_, _, _, rfl, hu2, hus2⟩
      simp only [List.mapM_cons, Sem.run_bind]
      rw [hu1]
      simp only [Result.andThen_ok, hus1, Sem.run_pure]
    · cases hr

theorem resA_run {w : World} {G : Gh} {h : Heap} {tm : List AV} {tmps : Array Value} {fn : Func} {r : AV} (hg : Good (tabOf P gl) G h w) (ht : VRL w G tm tmps.toList) (hr : resA (tabOf P gl) tm h fn.results.toList = some r) :
    ∃ v, (results fn tmps).run P w = .ok v w ∧ VR w G r v := by
  unfold resA at hr
  have key : ∀ {l}, resL (tabOf P gl) tm h fn.results.toList = some l → ∃ vs : List Value, VRL w G l vs ∧ (results fn tmps).run P w = .ok (if hh : vs.toArray.size = 1 then vs.toArray[0] else .tuple vs.toArray) w := by
    intro l hl
    obtain ⟨vs, h1, h2⟩ := resL_run hg ht hl
    refine ⟨vs, h2, ?_⟩
    unfold results
    rw [Array.mapM_eq_mapM_toList]
    simp only [Sem.run_bind, Sem.run_map, Sem.run_pure]
    generalize hz : Sem.run P (List.mapM _ fn.results.toList) w = z
    have e : z = Result.ok vs w := hz.symm.trans h1
    rw [e]
    rfl
  split at hr
  · rename_i v hl
    simp at hr; subst hr
    obtain ⟨vs, h1, h2⟩ := key hl
    obtain ⟨u, us, rfl, hu, hus⟩ := h1
    have : us = [] := hus
    subst this
    exact ⟨u, by rw [h2]; simp, hu⟩
  · rename_i l hne hl
    simp at hr; subst hr
    obtain ⟨vs, h1, h2⟩ := key hl
    refine ⟨.tuple vs.toArray, ?_, vs, rfl, h1⟩
    rw [h2]
    have hlen := h1.length
    have : vs.length ≠ 1 := by
      intro hc
      rw [hc] at hlen
      match l, hlen with
      | [x], _ => exact hne x rfl
    simp [this]
  · cases hr

theorem body_sound (hK : CallSound P gl K) (hD : DrawSound P gl K) {L : Nat} {f : FuncId} {fn : Func} (hfn : P.funcs[f]? = some fn) (hok : ∀ c, fn.body = some c → codeOk c = true) {args : List AV} {h h' : Heap} {r : AV}
    (hb : bodyA (tabOf P gl) K L fn args h = some (r, h')) {w : World} {G : Gh} {vals : List Value} (hg : Good (tabOf P gl) G h w) (hv : VRL w G args vals) :
    Calls P f vals.toArray w (fun e w' => ∃ v G', e = .returned v ∧ VR w' G' r v ∧ Nx (tabOf P gl) G h w G' h' w') := by
  unfold bodyA at hb
  split at hb
  · cases hb
  · rename_i c hbody
    have ht : VRL w G (args ++ List.replicate (fn.ntmps - args.length) .undef) (vals.toArray ++ Array.replicate (fn.ntmps - vals.toArray.size) undef).toList := by
      have e : (vals.toArray ++ Array.replicate (fn.ntmps - vals.toArray.size) undef).toList = vals ++ List.replicate (fn.ntmps - args.length) undef := by
        simp [hv.length]
      rw [e]
      exact hv.append (VRL.replicate _ rfl)
    have go : ∀ {ex tm h1}, exec (tabOf P gl) K L c (args ++ List.replicate (fn.ntmps - args.length) .undef) h = some (ex, tm, h1) → (ex = .normal ∨ ex = .ret) → (resA (tabOf P gl) tm h1 fn.results.toList).map (·, h1) = some (r, h') →
        Calls P f vals.toArray w (fun e w' => ∃ v G', e = .returned v ∧ VR w' G' r v ∧ Nx (tabOf P gl) G h w G' h' w') := by
      intro ex tm h1 he hex hr
      cases hra : resA (tabOf P gl) tm h1 fn.results.toList with
      | none => rw [hra] at hr; simp at hr
      | some r1 =>
        rw [hra] at hr
        simp at hr
        obtain ⟨rfl, rfl⟩ := hr
        refine calls_of_wp hfn hbody ?_
        refine exec_sound hK hD L c (hok c hbody) he hg ht ?_
        intro a1 w1 G1 t1 d1 x1
        obtain ⟨v, hv1, hv2⟩ := resA_run x1.good t1 hra
        rcases hex with rfl | rfl
        · exact ⟨d1, v, hv1, v, G1, rfl, hv2, x1⟩
        · exact ⟨d1, v, hv1, v, G1, rfl, hv2, x1⟩
    split at hb
    · rename_i tm h1 he; exact go he (.inl rfl) hb
    · rename_i tm h1 he; exact go he (.inr rfl) hb
    · cases hb

/-- What a table of functions owes. -/
def FOk (P : Program) (F : Nat → Option Func) : Prop :=
  ∀ f fn, F f = some fn → P.funcs[f]? = some fn ∧ (fn.name == "runtime.NumGoroutine") = false ∧ ∃ c, fn.body = some c ∧ codeOk c = true

/-- What the functions with an answer of their own owe. -/
def SpOk (P : Program) (gl : Nat → Option (List AV)) (sp : SpA) : Prop :=
  ∀ f g, sp f = some g → CallSound P gl (fun f' args h => if f' = f then g args h else none)

theorem call_sound {F : Nat → Option Func} {sp : SpA} (hF : FOk P F) (hS : SpOk P gl sp) (hD : ∀ K, CallSound P gl K → DrawSound P gl K) : ∀ n, CallSound P gl (callA (tabOf P gl) F sp n)
  | 0 => fun f args h r h' hk => by simp [callA] at hk
  | n + 1 => fun f args h r h' hk => by
    simp only [callA] at hk
    split at hk
    · rename_i g hg
      exact hS f g hg f args h r h' (by simpa using hk)
    · split at hk
      · rename_i fn hfn
        obtain ⟨h1, h2, c, h3, h4⟩ := hF f fn hfn
        have ih := call_sound hF hS hD n
        exact ⟨⟨fn, c, h1, h2, h3⟩, fun w G vals hg hv => body_sound ih (hD _ ih) h1 (fun c' hc' => by rw [h3] at hc'; injection hc' with hc'; exact hc' ▸ h4) hk hg hv⟩
      · cases hk

end
end Go.Proofs.YtfckkiebffmkfaaGreatDoor.AM
