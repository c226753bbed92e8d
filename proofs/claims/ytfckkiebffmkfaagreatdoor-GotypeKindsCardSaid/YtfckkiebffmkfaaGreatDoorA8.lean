/- The abstract operations against the machine's, further: comparisons, strings, conversions, cuts. -/
import Derived.Test.YtfckkiebffmkfaaGreatDoorA7
import Derived.Laws.Strings
import Derived.Laws.IdiomStrings
import Derived.Laws.Cover1
namespace Go.Proofs.YtfckkiebffmkfaaGreatDoor.AM
open Go Go.RowKit

section
variable {P : Program} {gl : Nat → Option (List AV)} {w : World} {G : Gh} {h : Heap}

theorem run_eqGuard_int (op : BinOp) (t : TypeId) (x y : Operand) (k j : IntKind) (a b : Int) (w : World) : (eqGuard op t x y (.int k a) (.int j b)).run P w = .ok () w := by
  unfold eqGuard; cases op <;> simp
theorem run_eqGuard_str (op : BinOp) (t : TypeId) (x y : Operand) (a b : ByteArray) (w : World) : (eqGuard op t x y (.string a) (.string b)).run P w = .ok () w := by
  unfold eqGuard; cases op <;> simp
theorem run_eqGuard_bool (op : BinOp) (t : TypeId) (x y : Operand) (a b : Bool) (w : World) : (eqGuard op t x y (.bool a) (.bool b)).run P w = .ok () w := by
  unfold eqGuard; cases op <;> simp

theorem boP_some {t : Nat} (hh : boP P t = true) : P.underlying t = some .bool := by
  unfold boP at hh
  split at hh
  · assumption
  · cases hh

theorem run_equalIn_bool (d : Nat) {t : TypeId} (ht : P.underlying t = some .bool) (a b : Bool) (w : World) : (Op.equalIn (d + 1) t (.bool a) (.bool b)).run P w = .ok (a == b) w := by
  simp only [Op.equalIn, Sem.run_bind, run_underlying ht, Result.andThen_ok]
  rfl
theorem run_eql_bool {t : TypeId} (ht : P.underlying t = some .bool) (a b : Bool) (w : World) : (binOp .eql t (.bool a) (.bool b)).run P w = .ok (.bool (a == b)) w := by
  have h := run_equalIn_bool 9999 ht a b w
  have e : binOp .eql t (.bool a) (.bool b) = (do pure (.bool (← Op.equalIn (9999 + 1) t (.bool a) (.bool b))) : Sem Value) := rfl
  rw [e, Sem.run_bind, h]
  rfl
theorem run_neq_bool {t : TypeId} (ht : P.underlying t = some .bool) (a b : Bool) (w : World) : (binOp .neq t (.bool a) (.bool b)).run P w = .ok (.bool !(a == b)) w := by
  have h := run_equalIn_bool 9999 ht a b w
  have e : binOp .neq t (.bool a) (.bool b) = (do pure (.bool (!(← Op.equalIn (9999 + 1) t (.bool a) (.bool b)))) : Sem Value) := rfl
  rw [e, Sem.run_bind, h]
  rfl

theorem bin_run {ty : Nat} {op : BinOp} {x y r : AV} {vx vy : Value} (ox oy : Operand) (hl : binA (tabOf P gl) ty op x y = some r) (hx : VR w G x vx) (hy : VR w G y vy) :
    ∃ v, (do eqGuard op ty ox oy vx vy; binOp op ty vx vy : Sem Value).run P w = .ok v w ∧ VR w G r v := by
  unfold binA at hl
  split at hl
  · rename_i k a k' b
    obtain rfl := hx
    obtain rfl := hy
    simp only [Sem.run_bind, run_eqGuard_int, Result.andThen_ok]
    split at hl
    · split at hl
      · cases hl
      · rename_i hb
        simp at hl; subst hl
        exact ⟨_, by simp [binOp, Op.shift, hb], rfl⟩
    · split at hl
      · cases hl
      · rename_i hb
        simp at hl; subst hl
        exact ⟨_, by simp [binOp, Op.shift, hb], rfl⟩
    · rename_i n1 n2
      split at hl
      · rename_i e
        subst e
        obtain ⟨v, hv, hr⟩ := binI_run (P := P) (G := G) hl w
        refine ⟨v, ?_, hr⟩
        rw [← hv]
        cases op <;> first | rfl | exact absurd rfl n1 | exact absurd rfl n2
      · cases hl
  · rename_i a b
    obtain rfl := hx
    obtain rfl := hy
    simp only [Sem.run_bind, run_eqGuard_str, Result.andThen_ok]
    split at hl
    · split at hl
      · rename_i hlen
        simp at hl; subst hl
        refine ⟨.string ⟨(a ++ b).toArray⟩, ?_, rfl⟩
        have h2 : (⟨a.toArray⟩ : ByteArray) ++ ⟨b.toArray⟩ = ⟨(a ++ b).toArray⟩ := by
          apply ByteArray.ext
          simp
        have h3 : ((⟨a.toArray⟩ : ByteArray).size + (⟨b.toArray⟩ : ByteArray).size) ≤ 9223372036854775807 := by simpa [ByteArray.size] using hlen
        rw [binOp_string_add]
        simp only [Op.stringOp]
        rw [if_neg (by simp only [show IntKind.i64.max = 9223372036854775807 from by decide]; omega), h2]
        rfl
      · cases hl
    · simp at hl; subst hl
      exact ⟨_, by rw [binOp_string_eql]; rfl, by simp [VR]⟩
    · simp at hl; subst hl
      exact ⟨_, by rw [binOp_string_neq]; rfl, by simp [VR]⟩
    · simp at hl; subst hl
      exact ⟨_, by rw [binOp_string_lss]; rfl, by simp [VR]⟩
    · cases hl
  · rename_i a b
    obtain rfl := hx
    obtain rfl := hy
    simp only [Sem.run_bind, run_eqGuard_bool, Result.andThen_ok]
    split at hl
    · rename_i hb
      simp at hl; subst hl
      exact ⟨_, run_eql_bool (boP_some hb) a b w, by simp [VR]⟩
    · rename_i hb
      simp at hl; subst hl
      exact ⟨_, run_neq_bool (boP_some hb) a b w, by simp [VR]⟩
    · cases hl
  · cases hl

theorem un_run {op : UnOp} {x r : AV} {vx : Value} (hl : unA op x = some r) (hx : VR w G x vx) : ∃ v, (Op.unary op vx).run P w = .ok v w ∧ VR w G r v := by
  unfold unA at hl
  split at hl
  · simp at hl; subst hl; obtain rfl := hx; exact ⟨_, by simp [Op.unary], rfl⟩
  · simp at hl; subst hl; obtain rfl := hx; exact ⟨_, by simp [Op.unary, Op.intArith], rfl⟩
  · cases hl

theorem bytesA_length (s : List UInt8) : (bytesA s).length = s.length := by simp [bytesA]
theorem bytesA_uni (s : List UInt8) : Uni 1 (bytesA s) := by
  intro e he
  simp only [bytesA, List.mem_map] at he
  obtain ⟨b, _, rfl⟩ := he
  rfl
theorem bytesA_flat (s : List UInt8) : (bytesA s).flatMap cellsOf = bytesA s := by
  induction s with
  | nil => rfl
  | cons b s ih => simp only [bytesA, List.map_cons, List.flatMap_cons] at *; rw [ih]; rfl
theorem bytesA_VRL (s : List UInt8) : VRL w G (bytesA s) (s.map fun b => Value.int .u8 (b.toNat : Int)) := by
  induction s with
  | nil => rfl
  | cons b s ih => exact ⟨_, _, rfl, rfl, ih⟩

theorem bsP_some {t : Nat} (hh : bsP P t = true) : ∃ e i, P.underlying t = some (.slice e) ∧ P.underlying e = some (.int .u8) ∧ P.info? e = some i ∧ i.size = 1 := by
  unfold bsP at hh
  split at hh
  · rename_i e he
    split at hh
    · rename_i i h1 h2
      exact ⟨e, i, he, h1, h2, by simpa using hh⟩
    · cases hh
  · cases hh

theorem unbytes_some : ∀ {es : List AV} {s : List UInt8} {l : List Value}, unbytes es = some s → VRL w G es l → ∃ xs : List Int, l = xs.map (Value.int .u8) ∧ s = xs.map (fun n => UInt8.ofNat n.toNat)
  | [], s, l, h, hl => by simp [unbytes] at h; subst h; have : l = [] := hl; subst this; exact ⟨[], rfl, rfl⟩
  | e :: es, s, l, h, hl => by
    obtain ⟨v, vs, rfl, h1, h2⟩ := hl
    unfold unbytes at h
    split at h
    · rename_i heq; cases heq
    · rename_i n es' heq
      injection heq with e1 e2
      subst e1; subst e2
      obtain rfl := h1
      cases hu : unbytes es with
      | none => simp [hu] at h
      | some s' =>
        simp [hu] at h
        subst h
        obtain ⟨xs, rfl, rfl⟩ := unbytes_some hu h2
        exact ⟨n :: xs, rfl, rfl⟩
    · cases h

theorem foldl_push : ∀ (xs : List Int) (r : ByteArray), (xs.foldl (fun r n => r.push (UInt8.ofNat n.toNat)) r) = ⟨r.data ++ (xs.map (fun n => UInt8.ofNat n.toNat)).toArray⟩
  | [], r => by simp
  | n :: xs, r => by
    simp only [List.foldl_cons]
    rw [foldl_push xs]
    simp [ByteArray.push]

theorem run_markStringish {c o : Nat} {arr : Array Value} {ty : TypeId} {fr : Nat × Nat} (hc : w.heap[c]? = some (.cells arr ty fr)) :
    (markStringish ⟨c, o, none⟩).run P w = .ok () (w.freeze ⟨c, arr.size, none⟩ 1) := by
  have : w.shape? c = some (ty, arr.size) := by simp [World.shape?, hc]
  simp [markStringish, shape, freeze, Sem.run, this]

theorem heap_freeze_old (w : World) (a : Addr) {c : Nat} (hc : c ≠ a.block) : (w.freeze a 1).heap[c]? = w.heap[c]? := by
  unfold World.freeze
  simp only [Nat.one_ne_zero, if_false, Array.getElem?_modify]
  rw [if_neg (by omega)]
theorem heap_freeze_same (w : World) {c : Nat} {arr : Array Value} {ty : TypeId} {fr : Nat × Nat} (hc : w.heap[c]? = some (.cells arr ty fr)) (hf : FrOk arr.size fr) :
    ∃ fr', FrOk arr.size fr' ∧ (w.freeze ⟨c, arr.size, none⟩ 1).heap[c]? = some (.cells arr ty fr') := by
  obtain ⟨lo, hi⟩ := fr
  refine ⟨if lo == hi then (arr.size, arr.size + 1) else (min lo arr.size, max hi (arr.size + 1)), ?_, ?_⟩
  · split
    · exact .inr (Nat.le_refl _)
    · rename_i hne
      right
      rcases hf with hf | hf
      · simp at hf hne; exact absurd hf hne
      · simp at hf ⊢; omega
  · unfold World.freeze
    simp only [Nat.one_ne_zero, if_false, Array.getElem?_modify, if_true, hc, Option.map_some]

theorem cell_freeze (w : World) (a : Addr) (b : Addr) : (w.freeze a 1).cell? b = w.cell? b := by
  simp only [World.freeze, Nat.one_ne_zero, if_false, World.cell?, Array.getElem?_modify]
  by_cases hb : a.block = b.block
  · simp only [hb, if_true]
    cases hh : w.heap[b.block]? with
    | none => simp
    | some x => cases x <;> simp
  · simp [hb]

/-- A look at where a string's bytes may come from leaves a mark behind the last cell alone. -/
theorem Nx.mark {T : Tab} (hg : Good T G h w) {c o : Nat} {arr : Array Value} {ty : TypeId} {fr : Nat × Nat} (hc : w.heap[c]? = some (.cells arr ty fr)) (hS : G.S c o) (hB : G.B ≤ c) :
    Nx T G h w G h (w.freeze ⟨c, arr.size, none⟩ 1) := by
  have hlt : c < w.heap.size := (Array.getElem?_eq_some_iff.1 hc).1
  have hsz : (w.freeze ⟨c, arr.size, none⟩ 1).heap.size = w.heap.size := by simp [World.freeze]
  have hs : Step G w G (w.freeze ⟨c, arr.size, none⟩ 1) := by
    refine ⟨rfl, fun _ _ h => h, fun _ i h => ⟨i, h, .inl rfl⟩, fun _ _ h => h, fun c' o hso => cell_freeze _ _ _, ⟨?_, ?_, ?_, by rw [hsz]; exact Nat.le_refl _, fun k hk => heap_freeze_old _ _ (by simp; omega)⟩, fun _ _ h => .inl h⟩ <;> simp [World.freeze]
  refine ⟨hg.next hs (fun b c' hb => ?_) hg.inj (fun b i hb => ?_) hg.ginj hg.mg (fun c' o ho => by rw [hsz]; exact hg.S c' o ho), hs, fun _ _ h1 h2 => ⟨h1, h2, rfl⟩, Nat.le_refl _⟩
  · obtain ⟨hB', hblk⟩ := hg.m b c' hb
    by_cases e : c' = c
    · subst e
      cases hget : h.get b with
      | none => rw [hget] at hblk; exact hblk.elim
      | some x =>
        rw [hget] at hblk
        cases x with
        | cells cs => exact absurd hS (hblk.1 o)
        | map es => obtain ⟨en, ck, h1, _⟩ := hblk; rw [hc] at h1; cases h1
        | grow a b => exact hblk.elim
        | dead => exact .inr ⟨hB', by show c' < _; rw [hsz]; exact hlt⟩
    · exact .inl ⟨hb, rfl, heap_freeze_old _ _ e, fun _ h => h⟩
  · obtain ⟨hB', sz, h1, h2⟩ := hg.g b i hb
    by_cases e : i.c = c
    · subst e
      obtain ⟨arr0, ty0, fr0, h3, h4, h5, h6, h7⟩ := h2
      rw [hc] at h3
      simp at h3
      obtain ⟨rfl, rfl, rfl⟩ := h3
      obtain ⟨fr', hf', hh'⟩ := heap_freeze_same w hc h4
      exact .inr ⟨hB', sz, h1, arr, ty, fr', hh', hf', h5, h6, h7⟩
    · exact .inl ⟨hb, rfl, heap_freeze_old _ _ e, fun _ h => h⟩

end
end Go.Proofs.YtfckkiebffmkfaaGreatDoor.AM
