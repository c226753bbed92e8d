/- The abstract operations against the machine's, further: new blocks, addresses, arithmetic, strings, conversions. -/
import Derived.Test.YtfckkiebffmkfaaGreatDoorA6
namespace Go.Proofs.YtfckkiebffmkfaaGreatDoor.AM
open Go Go.RowKit

section
variable {P : Program} {gl : Nat → Option (List AV)} {w : World} {G : Gh} {h : Heap}

theorem run_newRow (t : TypeId) (cs : Array Value) (w : World) : (newRow t cs).run P w = .ok ⟨w.heap.size, 0, none⟩ (w.alloc (.cells cs t)) := by
  simp [newRow, newObj, Sem.run]

theorem box_run {t : Nat} {x : AV} {vx : Value} (hg : Good (tabOf P gl) G h w) (hx : VR w G x vx) :
    ∃ v w' G', (Instr.box t vx).run P w = .ok v w' ∧ VR w' G' (.ptr h.n 0) v ∧ Nx (tabOf P gl) G h w G' (h.push (.cells (cellsOf x))) w' := by
  obtain ⟨hn, hm⟩ := Nx.real hg hx.cells t
  refine ⟨.pointer (some ⟨w.heap.size, 0, none⟩), _, _, ?_, ⟨w.heap.size, hm, rfl⟩, hn⟩
  simp [Instr.box, newVar, run_newRow]
theorem alloc_run {t : Nat} {z : AV} (hg : Good (tabOf P gl) G h w) (hz : zrP P t = some z) :
    ∃ v w' G', (Instr.alloc t true (.tuple #[])).run P w = .ok v w' ∧ VR w' G' (.ptr h.n 0) v ∧ Nx (tabOf P gl) G h w G' (h.push (.cells (cellsOf z))) w' := by
  obtain ⟨i, u, hi, hu, hz⟩ := zrP_some hz
  have hv : VR w G z u := ofV_VR hz
  obtain ⟨hn, hm⟩ := Nx.real hg hv.cells t
  refine ⟨.pointer (some ⟨w.heap.size, 0, none⟩), _, _, ?_, ⟨w.heap.size, hm, rfl⟩, hn⟩
  simp [Instr.alloc, newVar, run_newRow, run_zero hi hu]
/-- The same where the abstract block was laid ahead. -/
theorem alloc_run_at {t b : Nat} {z : AV} (hg : Good (tabOf P gl) G h w) (hz : zrP P t = some z) (hb : h.get b = some (.cells (cellsOf z))) (hm : G.m b = none) (hgb : G.g b = none) :
    ∃ v w', (Instr.alloc t true (.tuple #[])).run P w = .ok v w' ∧ VR w' (G.real b w.heap.size) (.ptr b 0) v ∧ Good (tabOf P gl) (G.real b w.heap.size) h w' ∧ Step G w (G.real b w.heap.size) w' := by
  obtain ⟨i, u, hi, hu, hz⟩ := zrP_some hz
  have hv : VR w G z u := ofV_VR hz
  obtain ⟨h1, h2⟩ := hg.real hb hm hgb hv.cells t
  refine ⟨.pointer (some ⟨w.heap.size, 0, none⟩), _, ?_, ⟨w.heap.size, by simp [Gh.real], rfl⟩, h1, h2⟩
  simp [Instr.alloc, newVar, run_newRow, run_zero hi hu]

theorem foP_some {s f o : Nat} (hh : foP P s f = some o) : ∃ fs fd i, P.underlying s = some (.struct fs) ∧ fs[f]? = some fd ∧ P.info? fd.type = some i ∧ i.size ≠ 0 ∧ fd.offset = o := by
  unfold foP at hh
  split at hh
  · rename_i fs hs
    split at hh
    · rename_i fd hf
      split at hh
      · rename_i i hi
        split at hh
        · cases hh
        · rename_i hne
          simp at hh
          exact ⟨fs, fd, i, hs, hf, hi, hne, hh⟩
      · cases hh
    · cases hh
  · cases hh
theorem field_run {s f : Nat} {x r : AV} {vx : Value} (hl : fieldA (tabOf P gl) s x f = some r) (hx : VR w G x vx) :
    ∃ v, (Instr.fieldAt s vx f).run P w = .ok v w ∧ VR w G r v := by
  unfold fieldA at hl
  split at hl
  · rename_i o b off ho
    simp at hl; subst hl
    obtain ⟨fs, fd, i, h1, h2, h3, h4, h5⟩ := foP_some ho
    obtain ⟨c, hm, rfl⟩ := hx
    refine ⟨.pointer (some ⟨c, off + o, none⟩), ?_, c, hm, rfl⟩
    simp [Instr.fieldAt, run_underlying h1, h2, Instr.sureAddr, fieldPlace, run_size h3, h4, add_mk, h5]
  · rename_i o sz els i' off ho
    simp at hl; subst hl
    obtain ⟨fs, fd, i, h1, h2, h3, h4, h5⟩ := foP_some ho
    obtain ⟨hu, c, o', hr, rfl⟩ := hx
    refine ⟨.pointer (some ⟨c, o' + i' * sz + (off + o), none⟩), ?_, hu, c, o', hr, rfl⟩
    simp [Instr.fieldAt, run_underlying h1, h2, Instr.sureAddr, fieldPlace, run_size h3, h4, add_mk, h5, Nat.add_assoc]
  · cases hl

theorem indexAddr_run {t : Nat} {x i r : AV} {vx vi : Value} (hl : indexAddrA (tabOf P gl) t x i = some r) (hx : VR w G x vx) (hi : VR w G i vi) :
    ∃ v, (Instr.indexAt t vx vi).run P w = .ok v w ∧ VR w G r v := by
  unfold indexAddrA at hl
  split at hl
  · rename_i sz els own k i e sz' by_ hel
    split at hl
    · rename_i hc
      obtain ⟨rfl, h0, h1⟩ := hc
      simp at hl; subst hl
      obtain ⟨inf, hu, hinf, hs, _⟩ := elP_some hel
      obtain ⟨hun, a, cap, rfl, hlen, _, hr⟩ := hx
      obtain rfl := hi
      have hne : els ≠ [] := by rintro rfl; simp at h1; omega
      obtain ⟨c, o, rfl, hrow⟩ := hr hne
      refine ⟨.pointer (some ⟨c, o + i.toNat * sz', none⟩), ?_, hun, c, o, hrow, by simp⟩
      simp [Instr.indexAt, asIntOf, run_underlying hu, run_size hinf, hs, h0, h1, add_mk]
    · cases hl
  · rename_i sz b off len k i e sz' by_ hel
    split at hl
    · rename_i hc
      obtain ⟨rfl, h0, h1⟩ := hc
      simp at hl; subst hl
      obtain ⟨inf, hu, hinf, hs, _⟩ := elP_some hel
      obtain ⟨c, cap, hm, rfl, _⟩ := hx
      obtain rfl := hi
      refine ⟨.pointer (some ⟨c, off + i.toNat * sz', none⟩), ?_, c, hm, rfl⟩
      simp [Instr.indexAt, asIntOf, run_underlying hu, run_size hinf, hs, h0, h1, add_mk]
    · cases hl
  · cases hl

/-- A part of a struct's or an array's value. -/
theorem part_run {t : Nat} {ag : Bool} {n : Nat} (hag : agP P t = some (ag, n)) {cs : List AV} {l : List Value} {off : Nat} {r : AV} (hl : VRL w G cs l) (hp : packA ag n cs off = some r) :
    ∃ v, (part t l.toArray off).run P w = .ok v w ∧ VR w G r v := by
  obtain ⟨d, i, hd, hi, hb, hn⟩ := agP_some hag
  unfold packA at hp
  cases ag with
  | true =>
    simp only [if_true] at hp
    split at hp
    · simp at hp; subst hp
      refine ⟨.agg ((l.drop off).take n).toArray, ?_, _, rfl, (hl.drop off).take n⟩
      simp [part, run_isAgg hd, hb, run_size hi, hn]
    · cases hp
  | false =>
    simp only [Bool.false_eq_true, if_false] at hp
    obtain ⟨v, hv, hr⟩ := hl.get hp
    refine ⟨v, ?_, hr⟩
    simp [part, run_isAgg hd, hb, hv]

theorem arP_some {t len n : Nat} {ag : Bool} (hh : arP P t = some (len, ag, n)) : ∃ e, P.underlying t = some (.array len e) ∧ agP P e = some (ag, n) := by
  unfold arP at hh
  split at hh
  · rename_i len' e he
    split at hh
    · rename_i a n' ha
      simp at hh
      obtain ⟨rfl, rfl, rfl⟩ := hh
      exact ⟨e, he, ha⟩
    · cases hh
  · cases hh
theorem pfP_some {t f off n : Nat} {ag : Bool} (hh : pfP P t f = some (ag, off, n)) : ∃ fs fd, P.underlying t = some (.struct fs) ∧ fs[f]? = some fd ∧ agP P fd.type = some (ag, n) ∧ fd.offset = off := by
  unfold pfP at hh
  split at hh
  · rename_i fs hs
    split at hh
    · rename_i fd hf
      split at hh
      · rename_i a n' ha
        simp at hh
        obtain ⟨rfl, rfl, rfl⟩ := hh
        exact ⟨fs, fd, hs, hf, ha, rfl⟩
      · cases hh
    · cases hh
  · cases hh

theorem stP_some {t : Nat} (hh : stP P t = true) : P.underlying t = some .string := by
  unfold stP at hh
  split at hh
  · assumption
  · cases hh
theorem index_run {t : Nat} {x i r : AV} {vx vi : Value} (hl : indexA (tabOf P gl) t x i = some r) (hx : VR w G x vx) (hi : VR w G i vi) :
    ∃ v, (Instr.index t vx vi).run P w = .ok v w ∧ VR w G r v := by
  unfold indexA at hl
  split at hl
  · rename_i s k i
    split at hl
    · rename_i h0
      obtain ⟨h0, hst⟩ := h0
      split at hl
      · rename_i b hb
        simp at hl; subst hl
        obtain rfl := hx
        obtain rfl := hi
        refine ⟨_, ?_, rfl⟩
        have : (⟨s.toArray⟩ : ByteArray)[i.toNat]? = some b := by
          have := hb
          obtain ⟨hlt, hv⟩ := List.getElem?_eq_some_iff.1 hb
          rw [getElem?_pos _ _ (by simpa [ByteArray.size] using hlt)]
          simp [ByteArray.getElem_eq_getElem_data, hv]
        simp [Instr.index, asIntOf, run_underlying (stP_some hst), h0, this]
      · cases hl
    · cases hl
  · rename_i cs k i
    split at hl
    · rename_i len ag sz har
      split at hl
      · rename_i hc
        obtain ⟨h0, h1⟩ := hc
        obtain ⟨e, hu, hag⟩ := arP_some har
        obtain ⟨l, rfl, hcs⟩ := hx
        obtain rfl := hi
        obtain ⟨d, inf, hd, hinf, hb, hn⟩ := agP_some hag
        obtain ⟨v, hv, hr⟩ := part_run (P := P) hag hcs hl
        refine ⟨v, ?_, hr⟩
        simp [Instr.index, asIntOf, run_underlying hu, h0, h1, run_size hinf, hn, hv]
      · cases hl
    · cases hl
  · cases hl

theorem binI_run {op : BinOp} {k : IntKind} {x y : Int} {r : AV} (hl : binI op k x y = some r) (w : World) :
    ∃ v, (binOp op 0 (.int k x) (.int k y)).run P w = .ok v w ∧ VR w G r v := by
  cases op <;> simp [binI, leI_eq] at hl
  case quo => obtain ⟨hy, rfl⟩ := hl; exact ⟨_, by simp [binOp, Op.intDiv, hy], rfl⟩
  case rem => obtain ⟨hy, rfl⟩ := hl; exact ⟨_, by simp [binOp, Op.intDiv, hy], rfl⟩
  all_goals subst hl; exact ⟨_, by simp [binOp, Op.intArith, Op.intBits, Op.intCmp]; rfl, by first | (simp [VR]; done) | (simp [VR]; rw [← decide_not]; simp)⟩

end
end Go.Proofs.YtfckkiebffmkfaaGreatDoor.AM
