/- The abstract operations against the machine's, further: maps keyed by strings. -/
import Derived.Test.YtfckkiebffmkfaaGreatDoorA12
namespace Go.Proofs.YtfckkiebffmkfaaGreatDoor.AM
open Go Go.RowKit

section
variable {P : Program} {gl : Nat → Option (List AV)} {w : World} {G : Gh} {h : Heap}

theorem mpP_some {t e : Nat} (hh : mpP P t = some e) : ∃ k, P.underlying t = some (.map k e) ∧ P.underlying k = some .string := by
  unfold mpP at hh
  split at hh
  · rename_i k e' hk
    split at hh
    · rename_i hs
      simp at hh; subst hh
      exact ⟨k, hk, hs⟩
    · cases hh
  · cases hh

theorem bytes_beq (a b : List UInt8) : ((⟨a.toArray⟩ : ByteArray) == ⟨b.toArray⟩) = (a == b) := by
  show (a.toArray == b.toArray) = _
  simp

theorem run_checkKey_str (b : Bool) (n : Nat) {k : TypeId} (hk : P.underlying k = some .string) (s : ByteArray) (w : World) : (Instr.checkKey b (n + 1) k (.string s)).run P w = .ok () w := by
  simp only [Instr.checkKey, Sem.run_bind, run_underlying hk, Result.andThen_ok]
  rfl

theorem findNow_R (k : List UInt8) : ∀ {es : List (List UInt8 × AV)} {en : List MapEntry} (i : Nat), MapR w G es en →
    (mget k es = none → Instr.findNow .string (.string ⟨k.toArray⟩) en i = some none) ∧
    (∀ v, mget k es = some v → ∃ j e, Instr.findNow .string (.string ⟨k.toArray⟩) en i = some (some (i + j, e.val)) ∧ en[j]? = some e ∧ VR w G v e.val ∧ e.key = .string ⟨k.toArray⟩)
  | [], en, i, h => by
    have : en = [] := h
    subst this
    exact ⟨fun _ => rfl, fun v hv => by cases hv⟩
  | (k', v') :: es, en, i, h => by
    obtain ⟨e, en, rfl, hk, hv, hm⟩ := h
    obtain ⟨ih1, ih2⟩ := findNow_R k (i + 1) hm
    have hs : Instr.sameNow .string (.string ⟨k.toArray⟩) e.key = some (k == k') := by
      rw [hk]; simp only [Instr.sameNow, bytes_beq]
    constructor
    · intro hn
      simp only [mget] at hn
      split at hn
      · cases hn
      · rename_i hne
        simp only [Instr.findNow, hs]
        have hne' : (k == k') = false := by simpa using hne
        rw [hne']
        exact ih1 hn
    · intro v hg
      simp only [mget] at hg
      split at hg
      · rename_i he
        simp at hg; subst hg
        refine ⟨0, e, ?_, rfl, hv, ?_⟩
        · simp only [Instr.findNow, hs, he]; rfl
        · rw [hk]; simp at he; rw [he]
      · rename_i hne
        have hne' : (k == k') = false := by simpa using hne
        obtain ⟨j, e', h1, h2, h3, h4⟩ := ih2 v hg
        refine ⟨j + 1, e', ?_, by simpa using h2, h3, h4⟩
        simp only [Instr.findNow, hs, hne', h1]
        rw [show i + 1 + j = i + (j + 1) from by omega]

theorem MapR.put (k : List UInt8) {v : AV} {u : Value} (hv : VR w G v u) : ∀ {es : List (List UInt8 × AV)} {en : List MapEntry}, MapR w G es en →
    (mget k es = none → ∀ ck, MapR w G (mput k v es) (en ++ [{ key := .string ⟨k.toArray⟩, val := u, born := ck }])) ∧
    (∀ x j e, mget k es = some x → Instr.findNow .string (.string ⟨k.toArray⟩) en 0 = some (some (j, e)) → MapR w G (mput k v es) (en.modify j fun e => { e with key := .string ⟨k.toArray⟩, val := u }))
  | [], en, h => by
    have : en = [] := h
    subst this
    exact ⟨fun _ ck => ⟨_, [], rfl, rfl, hv, rfl⟩, fun x j e hx => by cases hx⟩
  | (k', v') :: es, en, h => by
    obtain ⟨e, en, rfl, hk, hv', hm⟩ := h
    obtain ⟨ih1, ih2⟩ := MapR.put k hv hm
    have hs : Instr.sameNow .string (.string ⟨k.toArray⟩) e.key = some (k == k') := by
      rw [hk]; simp only [Instr.sameNow, bytes_beq]
    constructor
    · intro hn ck
      simp only [mget] at hn
      split at hn
      · cases hn
      · rename_i hne
        simp only [mput, hne]
        exact ⟨e, _, rfl, hk, hv', ih1 hn ck⟩
    · intro x j e' hx hf
      simp only [mget] at hx
      split at hx
      · rename_i he
        simp only [Instr.findNow, hs, he] at hf
        simp at hf
        obtain ⟨rfl, rfl⟩ := hf
        simp only [mput, he, if_true]
        exact ⟨{ e with key := .string ⟨k.toArray⟩, val := u }, en, by simp, rfl, hv, hm⟩
      · rename_i hne
        have hne' : (k == k') = false := by simpa using hne
        simp only [Instr.findNow, hs, hne'] at hf
        obtain ⟨j', e2, h1, _⟩ := (findNow_R k 1 hm).2 x hx
        obtain ⟨j'', e3, h1', _⟩ := (findNow_R k 0 hm).2 x hx
        have hj : j = j'' + 1 := by
          have key : ∀ (l : List MapEntry) (a b : Nat), Instr.findNow .string (.string ⟨k.toArray⟩) l (a + b) = (Instr.findNow .string (.string ⟨k.toArray⟩) l a).map (Option.map fun p => (p.1 + b, p.2)) := by
            intro l
            induction l with
            | nil => intro a b; rfl
            | cons x l ih =>
              intro a b
              simp only [Instr.findNow]
              cases Instr.sameNow .string (.string ⟨k.toArray⟩) x.key with
              | none => rfl
              | some t =>
                cases t with
                | true => rfl
                | false =>
                  simp only []
                  rw [show a + b + 1 = a + 1 + b from by omega, ih (a + 1) b]
          have h2 := key en 0 1
          rw [h1'] at h2
          simp only [Nat.zero_add] at h2 hf
          rw [hf] at h2
          simp at h2
          omega
        subst hj
        simp only [mput, hne']
        refine ⟨e, _, by rw [List.modify_succ_cons], hk, hv', ?_⟩
        exact ih2 x j'' e3.val hx (by rw [h1']; simp)

theorem MapR.del (k : List UInt8) : ∀ {es : List (List UInt8 × AV)} {en : List MapEntry}, MapR w G es en →
    (mget k es = none → mdel k es = es) ∧
    (∀ x j e, mget k es = some x → Instr.findNow .string (.string ⟨k.toArray⟩) en 0 = some (some (j, e)) → MapR w G (mdel k es) (en.eraseIdx j))
  | [], en, h => ⟨fun _ => rfl, fun x j e hx => by cases hx⟩
  | (k', v') :: es, en, h => by
    obtain ⟨e, en, rfl, hk, hv', hm⟩ := h
    obtain ⟨ih1, ih2⟩ := MapR.del k hm
    have hs : Instr.sameNow .string (.string ⟨k.toArray⟩) e.key = some (k == k') := by
      rw [hk]; simp only [Instr.sameNow, bytes_beq]
    constructor
    · intro hn
      simp only [mget] at hn
      split at hn
      · cases hn
      · rename_i hne
        have hne' : (k == k') = false := by simpa using hne
        simp only [mdel, hne']
        rw [ih1 hn]
        rfl
    · intro x j e' hx hf
      simp only [mget] at hx
      split at hx
      · rename_i he
        simp only [Instr.findNow, hs, he] at hf
        simp at hf
        obtain ⟨rfl, rfl⟩ := hf
        simp only [mdel, he, if_true]
        simpa using hm
      · rename_i hne
        have hne' : (k == k') = false := by simpa using hne
        simp only [Instr.findNow, hs, hne'] at hf
        obtain ⟨j'', e3, h1', _⟩ := (findNow_R k 0 hm).2 x hx
        have hj : j = j'' + 1 := by
          have key : ∀ (l : List MapEntry) (a b : Nat), Instr.findNow .string (.string ⟨k.toArray⟩) l (a + b) = (Instr.findNow .string (.string ⟨k.toArray⟩) l a).map (Option.map fun p => (p.1 + b, p.2)) := by
            intro l
            induction l with
            | nil => intro a b; rfl
            | cons x l ih =>
              intro a b
              simp only [Instr.findNow]
              cases Instr.sameNow .string (.string ⟨k.toArray⟩) x.key with
              | none => rfl
              | some t =>
                cases t with
                | true => rfl
                | false =>
                  simp only []
                  rw [show a + b + 1 = a + 1 + b from by omega, ih (a + 1) b]
          have h2 := key en 0 1
          rw [h1'] at h2
          simp only [Nat.zero_add] at h2 hf
          rw [hf] at h2
          simp at h2
          omega
        subst hj
        simp only [mdel, hne']
        refine ⟨e, _, by rw [List.eraseIdx_cons_succ], hk, hv', ?_⟩
        exact ih2 x j'' e3.val hx (by rw [h1']; simp)

theorem run_findKey {kt : TypeId} (hk : P.underlying kt = some .string) {k : List UInt8} {en : List MapEntry} {r : Option (Nat × Value)} (hf : Instr.findNow .string (.string ⟨k.toArray⟩) en 0 = some r) (w : World) :
    (Instr.findKey kt (.string ⟨k.toArray⟩) en).run P w = .ok r w := by
  simp [Instr.findKey, run_underlying hk, hf]

theorem run_getMap {c : Nat} {en : Array MapEntry} {ck : Nat} (hc : w.heap[c]? = some (.map en ck)) : (getObj c).run P w = .ok (.map en ck) w := by
  simp [getObj, Sem.run, hc]
theorem run_setMap {c : Nat} {en : Array MapEntry} {ck : Nat} (hc : w.heap[c]? = some (.map en ck)) (o : Obj) : (setObj c o).run P w = .ok () (setObjW w c o) := by
  simp [setObj, Sem.run, hc, setObjW]

theorem lookup_run {t : Nat} {x k r : AV} {ok : Bool} {vx vk : Value} (hg : Good (tabOf P gl) G h w) (hl : lookupA (tabOf P gl) h t x k ok = some r) (hx : VR w G x vx) (hk : VR w G k vk) :
    ∃ v, (Instr.lookup t vx vk ok).run P w = .ok v w ∧ VR w G r v := by
  unfold lookupA at hl
  split at hl
  · rename_i s
    obtain rfl := hk
    split at hl
    · cases hl
    · rename_i et het
      obtain ⟨kt, hu, huk⟩ := mpP_some het
      have fin : ∀ (en : Array MapEntry) (es : List (List UInt8 × AV)), MapR w G es en.toList →
          (match mget s es with
            | some v => some (if ok then AV.tup [v, .bool true] else v)
            | none => match zrP P et with
              | some z => some (if ok then AV.tup [z, .bool false] else z)
              | none => none) = some r →
          ∃ v, ((do
            Instr.checkKey en.isEmpty 10000 kt (.string ⟨s.toArray⟩)
            let (v, ok') ← match ← Instr.findKey kt (.string ⟨s.toArray⟩) en.toList with
              | some (_, v) => pure (v, true)
              | none => pure (← zeroValue et, false)
            pure (if ok then .tuple #[v, .bool ok'] else v) : Sem Value)).run P w = .ok v w ∧ VR w G r v := by
        intro en es hm hr
        obtain ⟨f1, f2⟩ := findNow_R s 0 hm
        have hck := run_checkKey_str (P := P) en.isEmpty 9999 huk (⟨s.toArray⟩ : ByteArray) w
        cases hgt : mget s es with
        | some v =>
          rw [hgt] at hr
          simp at hr; subst hr
          obtain ⟨j, e, h1, h2, h3, h4⟩ := f2 v hgt
          have hfk := run_findKey (P := P) huk h1 w
          cases ok with
          | true =>
            refine ⟨.tuple #[e.val, .bool true], ?_, [e.val, .bool true], rfl, _, _, rfl, h3, _, _, rfl, rfl, rfl⟩
            simp only [Sem.run_bind, hck, Result.andThen_ok, hfk, Sem.run_pure]
            rfl
          | false =>
            refine ⟨e.val, ?_, h3⟩
            simp only [Sem.run_bind, hck, Result.andThen_ok, hfk, Sem.run_pure]
            rfl
        | none =>
          rw [hgt] at hr
          have hfk := run_findKey (P := P) huk (f1 hgt) w
          cases hz : zrP P et with
          | none => rw [hz] at hr; simp at hr
          | some z =>
            rw [hz] at hr
            simp at hr; subst hr
            obtain ⟨i, u, hi, hu', hzv⟩ := zrP_some hz
            have hzr : VR w G z u := ofV_VR hzv
            cases ok with
            | true =>
              refine ⟨.tuple #[u, .bool false], ?_, [u, .bool false], rfl, _, _, rfl, hzr, _, _, rfl, rfl, rfl⟩
              simp only [Sem.run_bind, hck, Result.andThen_ok, hfk, run_zero hi hu', Sem.run_pure]
              rfl
            | false =>
              refine ⟨u, ?_, hzr⟩
              simp only [Sem.run_bind, hck, Result.andThen_ok, hfk, run_zero hi hu', Sem.run_pure]
              rfl
      cases x with
      | map m =>
        cases m with
        | none =>
          obtain rfl := hx
          obtain ⟨v, h1, h2⟩ := fin #[] [] rfl (by
            simp only [mget]
            simp only [tabOf] at hl
            cases hz : zrP P et <;> simp_all)
          refine ⟨v, ?_, h2⟩
          simp only [Instr.lookup, Sem.run_bind, run_underlying hu, Result.andThen_ok, Sem.run_pure]
          simp only [Sem.run_bind, Sem.run_pure] at h1
          exact h1
        | some b =>
          obtain ⟨c, hm, rfl⟩ := hx
          simp only [tabOf] at hl
          cases hgb : h.get b with
          | none => rw [hgb] at hl; simp at hl
          | some blk =>
            cases blk with
            | map es =>
              rw [hgb] at hl
              dsimp only at hl
              obtain ⟨_, hblk⟩ := hg.m b c hm
              rw [hgb] at hblk
              obtain ⟨en, ck, hc, hmr⟩ := hblk
              obtain ⟨v, h1, h2⟩ := fin en es hmr (by
                cases hgt : mget s es with
                | some v => rw [hgt] at hl; simpa using hl
                | none =>
                  rw [hgt] at hl
                  cases hz : zrP P et <;> simp_all)
              refine ⟨v, ?_, h2⟩
              simp only [Instr.lookup, Sem.run_bind, run_underlying hu, Result.andThen_ok, run_getMap hc, Sem.run_pure]
              simp only [Sem.run_bind, Sem.run_pure] at h1
              exact h1
            | cells cs => rw [hgb] at hl; simp at hl
            | grow a b => rw [hgb] at hl; simp at hl
            | dead => rw [hgb] at hl; simp at hl
      | _ => simp at hl
  · cases hl

theorem mapUpdate_run {t : Nat} {x k u : AV} {h' : Heap} {vx vk vu : Value} (hg : Good (tabOf P gl) G h w) (hl : mupdA (tabOf P gl) h t x k u = some h') (hx : VR w G x vx) (hk : VR w G k vk) (hu : VR w G u vu) :
    ∃ w', (Instr.mapUpdate t vx vk vu).run P w = .ok () w' ∧ Nx (tabOf P gl) G h w G h' w' := by
  unfold mupdA at hl
  split at hl
  · rename_i r s et het
    split at hl
    · rename_i es hgb
      simp at hl; subst hl
      obtain rfl := hk
      obtain ⟨c, hm, rfl⟩ := hx
      obtain ⟨kt, hut, huk⟩ := mpP_some het
      obtain ⟨_, hblk⟩ := hg.m r c hm
      rw [hgb] at hblk
      obtain ⟨en, ck, hc, hmr⟩ := hblk
      obtain ⟨f1, f2⟩ := findNow_R s 0 hmr
      obtain ⟨p1, p2⟩ := MapR.put s hu hmr
      have hck := run_checkKey_str (P := P) false 9999 huk (⟨s.toArray⟩ : ByteArray) w
      cases hgt : mget s es with
      | none =>
        have hfk := run_findKey (P := P) huk (f1 hgt) w
        refine ⟨_, ?_, Nx.mapSet hg hm hgb hc (en.push { key := .string ⟨s.toArray⟩, val := vu, born := ck }) (ck + 1) (by simpa using p1 hgt ck)⟩
        simp only [Instr.mapUpdate, Sem.run_bind, run_underlying hut, Result.andThen_ok, run_getMap hc, hck, hfk]
        exact run_setMap hc _
      | some v =>
        obtain ⟨j, e, h1, h2, h3, h4⟩ := f2 v hgt
        simp only [Nat.zero_add] at h1
        have hfk := run_findKey (P := P) huk h1 w
        have hek : (en[j]?).map (·.key) = some (.string ⟨s.toArray⟩) := by
          rw [← Array.getElem?_toList, h2]; simp [h4]
        have hst : (Instr.keyThatStays (.string ⟨s.toArray⟩) (.string ⟨s.toArray⟩)).run P w = .ok (.string ⟨s.toArray⟩) w := by
          have : Instr.sameBits 10000 (.string ⟨s.toArray⟩) (.string ⟨s.toArray⟩) = true := by
            show ((⟨s.toArray⟩ : ByteArray) == ⟨s.toArray⟩) = true
            rw [bytes_beq]; simp
          simp [Instr.keyThatStays, this]
        refine ⟨_, ?_, Nx.mapSet hg hm hgb hc (en.modify j fun e => { e with key := .string ⟨s.toArray⟩, val := vu }) ck (by
          rw [Array.toList_modify]
          exact p2 v j e.val hgt h1)⟩
        simp only [Instr.mapUpdate, Sem.run_bind, run_underlying hut, Result.andThen_ok, run_getMap hc, hck, hfk, hek, Option.getD_some, hst]
        exact run_setMap hc _
    · cases hl
  · cases hl

theorem delete_run {t ty : Nat} {x k : AV} {h' : Heap} {vx vk : Value} (hg : Good (tabOf P gl) G h w) (hl : mdelA (tabOf P gl) h t x k = some h') (hx : VR w G x vx) (hk : VR w G k vk) (ts : List Nat) :
    ∃ w', (Builtin.delete_ (t :: ts).toArray ty #[vx, vk]).run P w = .ok (.tuple #[]) w' ∧ Nx (tabOf P gl) G h w G h' w' := by
  unfold mdelA at hl
  split at hl
  · rename_i r s et het
    split at hl
    · rename_i es hgb
      simp at hl; subst hl
      obtain rfl := hk
      obtain ⟨c, hm, rfl⟩ := hx
      obtain ⟨kt, hut, huk⟩ := mpP_some het
      obtain ⟨_, hblk⟩ := hg.m r c hm
      rw [hgb] at hblk
      obtain ⟨en, ck, hc, hmr⟩ := hblk
      obtain ⟨f1, f2⟩ := findNow_R s 0 hmr
      obtain ⟨p1, p2⟩ := MapR.del s hmr
      have hck := run_checkKey_str (P := P) en.isEmpty 9999 huk (⟨s.toArray⟩ : ByteArray) w
      cases hgt : mget s es with
      | none =>
        have hfk := run_findKey (P := P) huk (f1 hgt) w
        refine ⟨_, ?_, Nx.mapSet hg hm hgb hc en ck (by rw [p1 hgt]; exact hmr)⟩
        simp [Builtin.delete_, run_underlying hut, run_getMap hc, hck, hfk, run_setMap hc]
      | some v =>
        obtain ⟨j, e, h1, h2, h3, h4⟩ := f2 v hgt
        simp only [Nat.zero_add] at h1
        have hfk := run_findKey (P := P) huk h1 w
        refine ⟨_, ?_, Nx.mapSet hg hm hgb hc (en.eraseIdxIfInBounds j) ck (by
          have hj : j < en.size := by have := (List.getElem?_eq_some_iff.1 h2).1; simpa using this
          have := p2 v j e.val hgt h1
          rw [Array.eraseIdxIfInBounds, dif_pos hj, Array.toList_eraseIdx]
          exact this)⟩
        simp [Builtin.delete_, run_underlying hut, run_getMap hc, hck, hfk, run_setMap hc]
    · cases hl
  · cases hl

end
end Go.Proofs.YtfckkiebffmkfaaGreatDoor.AM
