/- The abstract operations against the machine's: loads, stores, slices, fields, arithmetic. -/
import Derived.Test.YtfckkiebffmkfaaGreatDoorA5
import Derived.Laws.Sem
import Derived.Laws.Entries
namespace Go.Proofs.YtfckkiebffmkfaaGreatDoor.AM
open Go Go.RowKit

theorem add_mk (c o n : Nat) : (⟨c, o, none⟩ : Addr).add n = ⟨c, o + n, none⟩ := by
  unfold Addr.add; split <;> simp_all

section
variable {P : Program} {gl : Nat → Option (List AV)} {w : World} {G : Gh} {h : Heap}

theorem agP_some {t : Nat} {b : Bool} {n : Nat} (hh : agP P t = some (b, n)) : ∃ d i, P.underlying t = some d ∧ P.info? t = some i ∧ isAggD d = b ∧ i.size = n := by
  unfold agP at hh
  split at hh
  · rename_i d i h1 h2
    simp at hh
    exact ⟨d, i, h1, h2, hh.1, hh.2⟩
  · cases hh
theorem run_isAgg {t : Nat} {d : TypeDesc} (hd : P.underlying t = some d) (w : World) : (isAgg t).run P w = .ok (isAggD d) w := by
  cases d <;> simp [isAgg, run_underlying hd, isAggD]
theorem run_size {t : Nat} {i : TypeInfo} (hi : P.info? t = some i) (w : World) : (sizeOf t).run P w = .ok i.size w := by
  simp [sizeOf, typeInfo, hi]
theorem run_info {t : Nat} {i : TypeInfo} (hi : P.info? t = some i) (w : World) : (typeInfo t).run P w = .ok i w := by
  simp [typeInfo, hi]
theorem run_zero {t : Nat} {i : TypeInfo} {z : Value} (hi : P.info? t = some i) (hz : i.zero = some z) (w : World) : (zeroValue t).run P w = .ok z w := by
  simp [zeroValue, typeInfo, hi, hz]
theorem zrP_some {t : Nat} {z : AV} (hh : zrP P t = some z) : ∃ i v, P.info? t = some i ∧ i.zero = some v ∧ ofV v = some z := by
  unfold zrP at hh
  split at hh
  · rename_i i hi
    split at hh
    · rename_i v hv
      exact ⟨i, v, hi, hv, hh⟩
    · cases hh
  · cases hh
theorem elP_some {t e sz by_ : Nat} (hh : elP P t = some (e, sz, by_)) : ∃ i, P.underlying t = some (.slice e) ∧ P.info? e = some i ∧ i.size = sz ∧ i.bytes = by_ := by
  unfold elP at hh
  split at hh
  · rename_i e' he
    split at hh
    · rename_i i hi
      simp at hh
      obtain ⟨rfl, rfl, rfl⟩ := hh
      exact ⟨i, he, hi, rfl, rfl⟩
    · cases hh
  · cases hh

/-- Cells that are read in memory, as a value of a type. -/
theorem loadVar_run {t : Nat} {ag : Bool} {n : Nat} (hag : agP P t = some (ag, n)) {cs : List AV} {l : List Value} {c o0 off : Nat} {r : AV}
    (hl : VRL w G cs l) (hc : ∀ j v, l[j]? = some v → w.cell? ⟨c, o0 + j, none⟩ = some v) (hp : packA ag n cs off = some r) :
    ∃ v, (loadVar t ⟨c, o0 + off, none⟩).run P w = .ok v w ∧ VR w G r v := by
  obtain ⟨d, i, hd, hi, hb, hn⟩ := agP_some hag
  unfold packA at hp
  cases ag with
  | true =>
    simp only [if_true] at hp
    split at hp
    · rename_i hle
      simp at hp; subst hp
      have hlen : ((l.drop off).take n).length = n := by rw [List.length_take, List.length_drop, hl.length]; omega
      have hr := run_loadCells_list (P := P) w ⟨c, o0 + off, none⟩ ((l.drop off).take n) (fun j v hv => by
        rw [add_mk, Nat.add_assoc]
        refine hc _ _ ?_
        rw [List.getElem?_take] at hv
        split at hv
        · rw [List.getElem?_drop] at hv; exact hv
        · cases hv)
      rw [hlen] at hr
      refine ⟨.agg ((l.drop off).take n).toArray, ?_, _, rfl, (hl.drop off).take n⟩
      simp [loadVar, run_isAgg hd, hb, run_size hi, hn, hr]
    · cases hp
  | false =>
    simp only [Bool.false_eq_true, if_false] at hp
    obtain ⟨v, hv, hr⟩ := hl.get hp
    refine ⟨v, ?_, hr⟩
    simp [loadVar, run_isAgg hd, hb, load, Sem.run, hc _ _ hv]

theorem load_run {t : Nat} {a r : AV} {va : Value} (hg : Good (tabOf P gl) G h w) (hl : loadA (tabOf P gl) h t a = some r) (ha : VR w G a va) :
    ∃ v, (Instr.loadAt t va).run P w = .ok v w ∧ VR w G r v := by
  unfold loadA at hl
  split at hl
  · cases hl
  rename_i ag n hag
  split at hl
  · rename_i b off
    split at hl
    · rename_i cs hb
      obtain ⟨c, hm, rfl⟩ := ha
      obtain ⟨_, hblk⟩ := hg.m b c hm
      rw [hb] at hblk
      obtain ⟨_, arr, ty, fr, l, rest, h1, _, h3, h4⟩ := hblk
      obtain ⟨v, hv, hr⟩ := loadVar_run (P := P) hag (o0 := 0) h4 (c := c) (fun j v hv => by
        have : arr[0 + j]? = some v := by
          rw [← Array.getElem?_toList, h3, Nat.zero_add, List.getElem?_append_left (by exact (List.getElem?_eq_some_iff.1 hv).1)]
          exact hv
        simpa [World.cell?, h1] using this) hl
      exact ⟨v, by simpa [Instr.loadAt, Instr.sureAddr] using hv, hr⟩
    · cases hl
  · rename_i sz els i off
    split at hl
    · rename_i e he
      obtain ⟨hu, c, o, hrow, rfl⟩ := ha
      obtain ⟨l, h4, hc⟩ := (hrow.get hu he).vals
      obtain ⟨v, hv, hr⟩ := loadVar_run (P := P) hag h4 hc hl
      exact ⟨v, by simpa [Instr.loadAt, Instr.sureAddr] using hv, hr⟩
    · cases hl
  · cases hl

theorem setCells_eq : ∀ (vs : List AV) (cs : List AV) (off : Nat), off + vs.length ≤ cs.length → setCells cs off vs = cs.take off ++ vs ++ cs.drop (off + vs.length)
  | [], cs, off, _ => by simp [setCells]
  | v :: vs, cs, off, hl => by
    rw [setCells, setCells_eq vs _ _ (by simp at hl ⊢; omega)]
    apply List.ext_getElem?
    intro j
    simp at hl
    simp only [List.append_assoc, List.getElem?_append, List.length_take, List.length_set, List.getElem?_take, List.getElem?_drop, List.getElem?_set, List.length_cons]
    rcases Nat.lt_trichotomy j off with hj | hj | hj
    · simp [show j < min (off + 1) cs.length from by omega, show j < min off cs.length from by omega, show j < off + 1 from by omega, show j < off from hj, show ¬ off = j from by omega]
    · subst hj
      simp [show j < min (j + 1) cs.length from by omega, show ¬ j < min j cs.length from by omega, show j - min j cs.length = 0 from by omega]
      omega
    · have h1 : min (off + 1) cs.length = off + 1 := by omega
      have h2 : min off cs.length = off := by omega
      rw [h1, h2]
      simp only [show ¬ j < off + 1 from by omega, show ¬ j < off from by omega, if_false]
      have h3 : j - off = (j - (off + 1)) + 1 := by omega
      rw [h3, List.getElem?_cons_succ]
      simp only [Nat.add_lt_add_iff_right]
      split
      · rfl
      · rw [show off + 1 + vs.length + (j - (off + 1) - vs.length) = off + (vs.length + 1) + (j - (off + 1) + 1 - (vs.length + 1)) from by omega]
        rw [if_neg (by omega)]

theorem run_storeCells_fr (c o : Nat) (t : TypeId) (fr : Nat × Nat) : ∀ (vs : List Value) (i : Nat) (cur : Array Value) (w : World), w.heap[c]? = some (.cells cur t fr) → FrOk cur.size fr → o + i + vs.length ≤ cur.size → (∀ v ∈ vs, v.oneCell' = true) →
    (storeCells ⟨c, o, none⟩ vs i).run P w = .ok () (w.setRow c (cur.toList.take (o + i) ++ vs ++ cur.toList.drop (o + i + vs.length)).toArray)
  | [], i, cur, w, hg, _, _, _ => by
    simp only [storeCells, List.append_nil, List.length_nil, Nat.add_zero, List.take_append_drop, Array.toArray_toList]
    rw [setRow_self w c cur t fr hg]
    rfl
  | v :: rest, i, cur, w, hg, hfr, hl, h1 => by
    have hi : o + i < cur.size := by simp at hl; omega
    have hcell : w.cell? ⟨c, o + i, none⟩ = some cur[o + i] := by simp [World.cell?, hg, hi]
    have hfro : w.frozen? ⟨c, o + i, none⟩ = false := by
      obtain ⟨lo, hi'⟩ := fr
      simp only [World.frozen?, hg, Bool.and_eq_false_iff, decide_eq_false_iff_not]
      rcases hfr with hfr | hfr <;> simp at hfr <;> omega
    have hst : (store ((⟨c, o, none⟩ : Addr).add i) v).run P w = .ok () (w.setRow c (cur.setIfInBounds (o + i) v)) := by
      rw [add_mk, run_store P w _ v _ (h1 v (by simp)), hcell]
      simp [hfro, setCell_eq_setRow w c (o + i) cur t fr v hg]
    have ih := run_storeCells_fr c o t fr rest (i + 1) (cur.setIfInBounds (o + i) v) (w.setRow c (cur.setIfInBounds (o + i) v)) (setRow_heap w c cur _ t _ hg) (by simpa using hfr) (by simp at hl ⊢; omega) (fun x hx => h1 x (by simp [hx]))
    simp only [storeCells, Sem.run_bind, hst, Result.andThen_ok, ih, setRow_setRow]
    congr 3
    have e := list_seg_step cur.toList (o + i) v rest (by simp at hl ⊢; omega)
    simpa [Array.toList_setIfInBounds, Nat.add_assoc] using e

theorem store_run {t : Nat} {a x : AV} {va vx : Value} {h' : Heap} (hg : Good (tabOf P gl) G h w) (hl : storeA (tabOf P gl) h t a x = some h') (ha : VR w G a va) (hx : VR w G x vx) :
    ∃ w', (Instr.storeAt t va vx).run P w = .ok () w' ∧ Nx (tabOf P gl) G h w G h' w' := by
  unfold storeA at hl
  split at hl
  · rename_i ag n b off hag
    split at hl
    · rename_i cs hb
      split at hl
      · rename_i hc
        obtain ⟨hn, hle, hisC⟩ := hc
        simp at hl; subst hl
        obtain ⟨c, hm, rfl⟩ := ha
        obtain ⟨d, i, hd, hi, _, hsz⟩ := agP_some hag
        obtain ⟨_, hblk⟩ := hg.m b c hm
        rw [hb] at hblk
        obtain ⟨_, arr, ty, fr, l, rest, h1, h2, h3, h4⟩ := hblk
        have hcx := hx.cells
        have hlx : vx.cells.toList.length = n := by rw [hcx.length, hn]
        have hll := h4.length
        have hsz' : arr.size = l.length + rest.length := by rw [← Array.length_toList, h3]; simp
        have hst := run_storeCells_fr (P := P) c off ty fr vx.cells.toList 0 arr w h1 h2 (by omega) (isC_all hcx hisC)
        simp only [Nat.add_zero, hlx] at hst
        refine ⟨_, ?_, Nx.store hg hm hb h1 (arr.toList.take off ++ vx.cells.toList ++ arr.toList.drop (off + n)).toArray ?_ (l' := l.take off ++ vx.cells.toList ++ l.drop (off + n)) (rest' := rest) ?_ ?_⟩
        · have : vx.cells.size = i.size := by rw [hsz, ← hlx]; simp
          simp [Instr.storeAt, Instr.sureAddr, storeVar, run_size hi, this, hst]
        · simp [hsz'] at *
          omega
        · simp only [h3]
          rw [List.take_append_of_le_length (by omega), List.drop_append_of_le_length (by omega)]
          simp
        · rw [setCells_eq _ _ _ (by omega), hn]
          exact ((h4.take off).append hcx).append (h4.drop _)
      · cases hl
    · cases hl
  · cases hl

end
end Go.Proofs.YtfckkiebffmkfaaGreatDoor.AM
