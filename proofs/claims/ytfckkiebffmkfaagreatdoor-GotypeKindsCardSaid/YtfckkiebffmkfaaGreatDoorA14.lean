/- One abstract operation against the machine's. -/
import Derived.Test.YtfckkiebffmkfaaGreatDoorA13
namespace Go.Proofs.YtfckkiebffmkfaaGreatDoor.AM
open Go Go.RowKit

section
variable {P : Program} {gl : Nat → Option (List AV)} {w : World} {G : Gh} {h : Heap}

theorem evOk {tm : List AV} {a : Act} (hg : Good (tabOf P gl) G h w) (ht : VRL w G tm a.tmps.toList) : EvOk w G (evA (tabOf P gl) tm) a.eval := by
  intro x av hx
  cases x with
  | tmp t =>
    obtain ⟨v, hv, hr⟩ := ht.get (show tm[t]? = some av from hx)
    rw [Array.getElem?_toList] at hv
    simp only [Act.eval, Array.getD_eq_getD_getElem?, hv, Option.getD_some]
    exact hr
  | const v => exact ofV_VR hx
  | global g =>
    simp only [evA] at hx
    cases hgl : (tabOf P gl).gl g with
    | none => rw [hgl] at hx; simp at hx
    | some cs =>
      rw [hgl] at hx
      simp at hx; subst hx
      exact ⟨fun e he => by simp at he; subst he; rfl, g, 0, ⟨hg.glob g cs hgl, trivial⟩, by simp [Act.eval]⟩
  | func f =>
    simp [evA] at hx; subst hx
    exact ⟨[], [], rfl, rfl, rfl⟩

theorem evL_VRL {ev : Operand → Option AV} {ρ : Operand → Value} (hev : EvOk w G ev ρ) : ∀ {xs : List Operand} {as : List AV}, evL ev xs = some as → VRL w G as (xs.map ρ)
  | [], as, h => by simp [evL] at h; subst h; rfl
  | x :: xs, as, h => by
    simp only [evL] at h
    split at h
    · rename_i v vs h1 h2
      simp at h; subst h
      exact ⟨_, _, rfl, hev x v h1, evL_VRL hev h2⟩
    · cases h

/-- What an operation that is no call comes to. -/
def RunOk (P : Program) (T : Tab) (G : Gh) (h : Heap) (w : World) (s : Sem Next) (r : AV) (h' : Heap) : Prop :=
  ∃ x v w' G', s.run P w = .ok x w' ∧ (x = .value v ∨ (x = .skip ∧ v = undef)) ∧ VR w' G' r v ∧ Nx T G h w G' h' w'

theorem RunOk.val {T : Tab} {s : Sem Value} {r : AV} {h' : Heap} (hh : ∃ v w' G', s.run P w = .ok v w' ∧ VR w' G' r v ∧ Nx T G h w G' h' w') : RunOk P T G h w (do pure (.value (← s))) r h' := by
  obtain ⟨v, w', G', h1, h2, h3⟩ := hh
  exact ⟨.value v, v, w', G', by simp only [Sem.run_bind, h1, Result.andThen_ok, Sem.run_pure], .inl rfl, h2, h3⟩
theorem RunOk.same {T : Tab} {s : Sem Value} {r : AV} (hg : Good T G h w) (hh : ∃ v, s.run P w = .ok v w ∧ VR w G r v) : RunOk P T G h w (do pure (.value (← s))) r h := by
  obtain ⟨v, h1, h2⟩ := hh
  exact RunOk.val ⟨v, w, G, h1, h2, Nx.refl hg⟩
theorem RunOk.pure {T : Tab} {v : Value} {r : AV} (hg : Good T G h w) (hv : VR w G r v) : RunOk P T G h w (Pure.pure (.value v)) r h :=
  ⟨.value v, v, w, G, rfl, .inl rfl, hv, Nx.refl hg⟩
theorem RunOk.unit {T : Tab} {s : Sem Unit} {h' : Heap} (hh : ∃ w', s.run P w = .ok () w' ∧ Nx T G h w G h' w') : RunOk P T G h w (do s; Pure.pure .skip) .undef h' := by
  obtain ⟨w', h1, h2⟩ := hh
  exact ⟨.skip, undef, w', G, by simp only [Sem.run_bind, h1, Result.andThen_ok, Sem.run_pure], .inr ⟨rfl, rfl⟩, rfl, h2⟩

theorem len_run {x r : AV} {v : Value} {t ty : Nat} (ts : List Nat) (hl : lenA x = some r) (hx : VR w G x v) (ht : ∀ s, x = .str s → P.underlying t = some .string) (he : (∃ a b c, x = .vs a b c) ∨ (∃ a b c d, x = .hs a b c d) → ∃ e, P.underlying t = some (.slice e)) :
    ∃ u, (Builtin.len_ (t :: ts).toArray ty #[v]).run P w = .ok u w ∧ VR w G r u := by
  cases x <;> simp [lenA] at hl <;> subst hl
  case str s =>
    exact ⟨.int .i64 (s.length : Int), by rw [show VR w G (.str s) v = (v = .string ⟨s.toArray⟩) from rfl] at hx; subst hx; simp [Builtin.len_, run_underlying (ht s rfl)]; rfl, rfl⟩
  case vs sz els own =>
    obtain ⟨e, hu⟩ := he (.inl ⟨_, _, _, rfl⟩)
    obtain ⟨_, a, cap, rfl, _⟩ := hx
    exact ⟨_, by simp [Builtin.len_, run_underlying hu, goInt], rfl⟩
  case hs sz b off len =>
    obtain ⟨e, hu⟩ := he (.inr ⟨_, _, _, _, rfl⟩)
    obtain ⟨c, cap, _, rfl, _⟩ := hx
    exact ⟨_, by simp [Builtin.len_, run_underlying hu, goInt], rfl⟩

theorem builtin_run {b : Builtin} {ts : List Nat} {args : List AV} {r : AV} {h' : Heap} {vals : List Value} (hg : Good (tabOf P gl) G h w) (hb : builtinA (tabOf P gl) b ts args h = some (r, h')) (hv : VRL w G args vals) (ty : Nat) (cs : Array Bool) :
    RunOk P (tabOf P gl) G h w (builtin b ts.toArray ty cs vals.toArray) r h' := by
  unfold builtinA at hb
  split at hb
  · rename_i x
    obtain ⟨v, vs, rfl, hx, hvs⟩ := hv
    have : vs = [] := hvs
    subst this
    cases ts with
    | nil => simp at hb
    | cons t ts =>
      simp only [List.getElem?_cons_zero] at hb
      have hsl : ∀ {o : Option (Nat × Nat × Nat)}, (tabOf P gl).el t = o → o.isSome = true → ∃ e, P.underlying t = some (.slice e) := by
        intro o ho hs
        cases o with
        | none => simp at hs
        | some p => obtain ⟨e, sz, by_⟩ := p; obtain ⟨i, hu, _⟩ := elP_some ho; exact ⟨e, hu⟩
      cases x <;> simp only [reduceCtorEq] at hb
      case vs sz els own =>
        split at hb
        · rename_i hs
          cases hl : lenA (.vs sz els own) with
          | none => rw [hl] at hb; simp at hb
          | some r' =>
            rw [hl] at hb
            simp at hb
            obtain ⟨rfl, rfl⟩ := hb
            exact RunOk.same hg (len_run ts hl hx (fun s h => by cases h) (fun _ => hsl rfl hs))
        · cases hb
      case hs sz b off len =>
        split at hb
        · rename_i hs
          cases hl : lenA (.hs sz b off len) with
          | none => rw [hl] at hb; simp at hb
          | some r' =>
            rw [hl] at hb
            simp at hb
            obtain ⟨rfl, rfl⟩ := hb
            exact RunOk.same hg (len_run ts hl hx (fun s h => by cases h) (fun _ => hsl rfl hs))
        · cases hb
      case str s =>
        split at hb
        · rename_i hs
          cases hl : lenA (.str s) with
          | none => rw [hl] at hb; simp at hb
          | some r' =>
            rw [hl] at hb
            simp at hb
            obtain ⟨rfl, rfl⟩ := hb
            exact RunOk.same hg (len_run ts hl hx (fun s h => stP_some hs) (fun h => by rcases h with ⟨_, _, _, h⟩ | ⟨_, _, _, _, h⟩ <;> cases h))
        · cases hb
  · rename_i sz0 els own sz1 more own1
    obtain ⟨vx, vs, rfl, hx, hvs⟩ := hv
    obtain ⟨vy, vs', rfl, hy, hvs'⟩ := hvs
    have : vs' = [] := hvs'
    subst this
    split at hb
    · rename_i t u ht hu
      split at hb
      · rename_i e sz by_ hel
        split at hb
        · rename_i z hz
          split at hb
          · rename_i hc
            obtain ⟨rfl, hzl, hs0, hs1⟩ := hc
            obtain ⟨ts', rfl⟩ : ∃ ts', ts = t :: t :: ts' := by
              match ts, ht, hu with
              | a :: b :: ts', ht, hu => simp at ht hu; subst ht; subst hu; exact ⟨ts', rfl⟩
            have hh := append_run (t := t) (ty := ty) hg hel hz hzl hs0 hs1 hb hx hy
            refine RunOk.val (s := Builtin.append_ (t :: t :: ts').toArray ty #[vx, vy]) ?_
            have e : Builtin.append_ (t :: t :: ts').toArray ty #[vx, vy] = Builtin.append_ #[t, t] ty #[vx, vy] := by
              simp [Builtin.append_]
            rw [e]
            exact hh
          · cases hb
        · cases hb
      · cases hb
    · cases hb
  · rename_i k x k' y
    obtain ⟨vx, vs, rfl, hx, hvs⟩ := hv
    obtain ⟨vy, vs', rfl, hy, hvs'⟩ := hvs
    have : vs' = [] := hvs'
    subst this
    split at hb
    · rename_i hk
      subst hk
      simp at hb
      obtain ⟨rfl, rfl⟩ := hb
      obtain rfl := hx
      obtain rfl := hy
      exact RunOk.same hg ⟨_, by simp [Builtin.min_, Builtin.min2], rfl⟩
    · cases hb
  · rename_i m k
    obtain ⟨vx, vs, rfl, hx, hvs⟩ := hv
    obtain ⟨vy, vs', rfl, hy, hvs'⟩ := hvs
    have : vs' = [] := hvs'
    subst this
    cases ts with
    | nil => simp at hb
    | cons t ts =>
      simp only [List.getElem?_cons_zero] at hb
      cases hd : mdelA (tabOf P gl) h t m k with
      | none => rw [hd] at hb; simp at hb
      | some h2 =>
        rw [hd] at hb
        simp at hb
        obtain ⟨rfl, rfl⟩ := hb
        obtain ⟨w', h1, h2⟩ := delete_run (ty := ty) hg hd hx hy ts
        exact RunOk.val ⟨.tuple #[], w', G, h1, ⟨[], rfl, rfl⟩, h2⟩
  · cases hb

/-- An operation that is no call of a function. -/
theorem op_run {K : KA} {ev : Operand → Option AV} {ρ : Operand → Value} {o : Oper} {r : AV} {h' : Heap} (hg : Good (tabOf P gl) G h w) (hev : EvOk w G ev ρ) (ho : opA (tabOf P gl) K ev o h = some (r, h')) (hc : ∀ c f, o.op = .call c → c.callee ≠ .value f) :
    RunOk P (tabOf P gl) G h w (execOp ρ o) r h' := by
  obtain ⟨dst, op, type, pos, after, guard⟩ := o
  have omap : ∀ {o : Option AV} {h2 : Heap}, o.map (·, h) = some (r, h2) → o = some r ∧ h = h2 := by
    intro o h2 ho
    cases o with
    | none => simp at ho
    | some x => simp at ho; exact ⟨by rw [ho.1], ho.2⟩
  cases op
  case makeFunc fn first captured =>
    cases fn <;> simp only [opA] at ho
    case func f =>
      split at ho
      · rename_i a b ha hb
        simp at ho
        obtain ⟨rfl, rfl⟩ := ho
        refine RunOk.same hg ⟨.func (.func f) (first.map ρ) (captured.map ρ), by simp [Instr.makeFunc], (first.toList.map ρ), (captured.toList.map ρ), by rw [← Array.toList_map, ← Array.toList_map], evL_VRL hev ha, evL_VRL hev hb⟩
      · cases ho
    all_goals cases ho
  case makeMap t res =>
    cases res <;> simp only [opA] at ho
    case none =>
      split at ho
      · rename_i hmp
        simp at ho
        obtain ⟨rfl, rfl⟩ := ho
        obtain ⟨h1, h2⟩ := Nx.mapNew hg
        exact RunOk.val ⟨.map (some w.heap.size), w.alloc (.map #[] 0), G.real h.n w.heap.size, rfl, ⟨_, h2, rfl⟩, h1⟩
      · cases ho
    all_goals cases ho
  all_goals simp only [opA] at ho
  case move x => obtain ⟨h1, rfl⟩ := omap ho; exact RunOk.pure hg (hev x r h1)
  case assign x => obtain ⟨h1, rfl⟩ := omap ho; exact RunOk.pure hg (hev x r h1)
  case pick c a b =>
    split at ho
    · rename_i t hct
      have hcv : ρ c = .bool t := hev c _ hct
      obtain ⟨h1, rfl⟩ := omap ho
      refine ⟨.value (if t then ρ a else ρ b), if t then ρ a else ρ b, w, G, ?_, .inl rfl, ?_, Nx.refl hg⟩
      · simp [execOp, hcv, asBool]
      · cases t
        · exact hev b r (by simpa using h1)
        · exact hev a r (by simpa using h1)
    · cases ho
  case alloc t =>
    split at ho
    · rename_i z ag hz hag
      simp at ho
      obtain ⟨rfl, rfl⟩ := ho
      exact RunOk.val (alloc_run hg hz)
    · cases ho
  case box t x =>
    cases hx : ev x with
    | none => rw [hx] at ho; simp at ho
    | some v =>
      rw [hx] at ho
      simp at ho
      obtain ⟨rfl, rfl⟩ := ho
      exact RunOk.val (box_run hg (hev x v hx))
  case build t ps =>
    split at ho
    · rename_i fs z hfs hz
      cases hb : buildA fs ev z ps.toList with
      | none => rw [hb] at ho; simp at ho
      | some cs =>
        rw [hb] at ho
        simp at ho
        obtain ⟨rfl, rfl⟩ := ho
        exact RunOk.same hg (build_run hev hfs hz hb)
    · cases ho
  case buildSlice t len ps =>
    split at ho
    · rename_i e sz by_ hel
      have hh := buildSlice_run (t := t) (len := len) (e := e) (sz := sz) (by_ := by_) (r := r) (ps := ps) hg hev hel
      refine RunOk.val ?_
      split at ho
      · rename_i h0
        split at ho
        · rename_i hemp
          simp at ho
          obtain ⟨rfl, rfl⟩ := ho
          exact hh (by rw [if_pos h0, if_pos hemp])
        · cases ho
      · rename_i h0
        split at ho
        · rename_i z hz
          split at ho
          · rename_i hc2
            cases hf : fillA sz ev (zerosA len z) ps.toList with
            | none => rw [hf] at ho; simp at ho
            | some els =>
              rw [hf] at ho
              simp at ho
              obtain ⟨rfl, rfl⟩ := ho
              exact hh (by rw [if_neg h0, show zrP P e = some z from hz]; simp only [hf]; rw [if_pos hc2]; rfl)
          · cases ho
        · cases ho
    · cases ho
  case load t a =>
    split at ho
    · rename_i x hx
      obtain ⟨h1, rfl⟩ := omap ho
      exact RunOk.same hg (load_run hg h1 (hev a x hx))
    · cases ho
  case store t a x =>
    split at ho
    · rename_i va vx ha hx
      cases hs : storeA (tabOf P gl) h t va vx with
      | none => rw [hs] at ho; simp at ho
      | some h2 =>
        rw [hs] at ho
        simp at ho
        obtain ⟨rfl, rfl⟩ := ho
        exact RunOk.unit (store_run hg hs (hev a va ha) (hev x vx hx))
    · cases ho
  case nilCheck x =>
    split at ho
    · rename_i b o hx
      simp at ho
      obtain ⟨rfl, rfl⟩ := ho
      have hv := hev x _ hx
      obtain ⟨c, hm, hp⟩ := hv
      exact ⟨.value (ρ x), ρ x, w, G, by simp [execOp, hp], .inl rfl, hev x _ hx, Nx.refl hg⟩
    · rename_i s e i o hx
      simp at ho
      obtain ⟨rfl, rfl⟩ := ho
      have hv := hev x _ hx
      obtain ⟨_, c, o', _, hp⟩ := hv
      exact ⟨.value (ρ x), ρ x, w, G, by simp [execOp, hp], .inl rfl, hev x _ hx, Nx.refl hg⟩
    · rename_i f a b hx
      simp at ho
      obtain ⟨rfl, rfl⟩ := ho
      have hv := hev x _ hx
      obtain ⟨la, lb, hp, _⟩ := hv
      exact ⟨.value (ρ x), ρ x, w, G, by simp [execOp, hp], .inl rfl, hev x _ hx, Nx.refl hg⟩
    · cases ho
  case binOp op ty x y yt =>
    split at ho
    · rename_i vx vy hx hy
      obtain ⟨h1, rfl⟩ := omap ho
      exact RunOk.same hg (bin_run x y h1 (hev x vx hx) (hev y vy hy))
    · cases ho
  case unOp op ty x =>
    split at ho
    · rename_i vx hx
      obtain ⟨h1, rfl⟩ := omap ho
      exact RunOk.same hg (un_run h1 (hev x vx hx))
    · cases ho
  case convert src dst x =>
    split at ho
    · rename_i vx hx
      obtain ⟨h1, rfl⟩ := omap ho
      exact RunOk.val (conv_run hg h1 (hev x vx hx))
    · cases ho
  case slice t x lo hi mx =>
    split at ho
    · rename_i vx vlo vhi vmx hx hlo hhi hmx
      obtain ⟨h1, rfl⟩ := omap ho
      have hO : ∀ {o : Option Operand} {m : Option AV}, evO ev o = some m → (∀ a, m = some a → ∃ v, o.map ρ = some v ∧ VR w G a v) ∧ (m = none → o.map ρ = none) := by
        intro o m hm
        cases o with
        | none => simp [evO] at hm; subst hm; exact ⟨fun a h => (by cases h), fun _ => rfl⟩
        | some x =>
          simp only [evO] at hm
          cases hx : ev x with
          | none => rw [hx] at hm; simp at hm
          | some v =>
            rw [hx] at hm
            simp at hm; subst hm
            exact ⟨fun a h => (by injection h with h; subst h; exact ⟨_, rfl, hev x v hx⟩), fun h => (by cases h)⟩
      exact RunOk.same hg (slice_run h1 (hev x vx hx) (hO hlo).1 (hO hlo).2 (hO hhi).1 (hO hhi).2 (hO hmx).2)
    · cases ho
  case fieldAddr s x f =>
    split at ho
    · rename_i vx hx
      obtain ⟨h1, rfl⟩ := omap ho
      exact RunOk.same hg (field_run h1 (hev x vx hx))
    · cases ho
  case field t x f =>
    split at ho
    · rename_i ag off sz cs hpf hx
      obtain ⟨h1, rfl⟩ := omap ho
      obtain ⟨fs, fd, h2, h3, h4, h5⟩ := pfP_some hpf
      obtain ⟨l, hv, hl⟩ := hev x _ hx
      obtain ⟨v, hv1, hv2⟩ := part_run (P := P) h4 hl h1
      refine RunOk.same hg ⟨v, ?_, hv2⟩
      simp [Instr.field, run_underlying h2, h3, hv, asAgg, h5, hv1]
    · cases ho
  case indexAddr t x i =>
    split at ho
    · rename_i vx vi hx hi
      obtain ⟨h1, rfl⟩ := omap ho
      exact RunOk.same hg (indexAddr_run h1 (hev x vx hx) (hev i vi hi))
    · cases ho
  case index t x i =>
    split at ho
    · rename_i vx vi hx hi
      obtain ⟨h1, rfl⟩ := omap ho
      exact RunOk.same hg (index_run h1 (hev x vx hx) (hev i vi hi))
    · cases ho
  case lookup t x i ok =>
    split at ho
    · rename_i vx vi hx hi
      obtain ⟨h1, rfl⟩ := omap ho
      exact RunOk.same hg (lookup_run hg h1 (hev x vx hx) (hev i vi hi))
    · cases ho
  case mapUpdate t m k x =>
    split at ho
    · rename_i vm vk vx hm hk hx
      cases hs : mupdA (tabOf P gl) h t vm vk vx with
      | none => rw [hs] at ho; simp at ho
      | some h2 =>
        rw [hs] at ho
        simp at ho
        obtain ⟨rfl, rfl⟩ := ho
        exact RunOk.unit (mapUpdate_run hg hs (hev m vm hm) (hev k vk hk) (hev x vx hx))
    · cases ho
  case extract t i =>
    split at ho
    · rename_i vs hx
      obtain ⟨h1, rfl⟩ := omap ho
      obtain ⟨l, hv, hl⟩ := hev t _ hx
      obtain ⟨v, hv1, hv2⟩ := hl.get h1
      refine RunOk.same hg ⟨v, ?_, hv2⟩
      simp [Instr.extract, hv, hv1]
    · cases ho
  case call c =>
    split at ho
    · rename_i b args hcal hargs
      have hh := builtin_run (ts := c.argTypes.toList) hg ho (evL_VRL hev hargs) type (c.args.map fun x => match x with | .const _ => true | _ => false)
      have e1 : (c.args.toList.map ρ).toArray = c.args.map ρ := by rw [← Array.toList_map]
      have e2 : c.argTypes.toList.toArray = c.argTypes := rfl
      rw [e2, e1] at hh
      obtain ⟨x, v, w', G', h1, h2⟩ := hh
      refine ⟨x, v, w', G', ?_, h2⟩
      simp only [execOp, resolve, hcal, Sem.run_bind, Sem.run_pure, Result.andThen_ok, invoke]
      exact h1
    · rename_i f args hcal hargs
      exact absurd hcal (hc c f rfl)
    · cases ho
  all_goals cases ho

end
end Go.Proofs.YtfckkiebffmkfaaGreatDoor.AM
