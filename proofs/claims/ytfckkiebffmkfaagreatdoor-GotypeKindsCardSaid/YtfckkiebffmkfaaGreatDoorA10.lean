/- The abstract operations against the machine's, further: structs and slices that are built; appends. -/
import Derived.Test.YtfckkiebffmkfaaGreatDoorA9
namespace Go.Proofs.YtfckkiebffmkfaaGreatDoor.AM
open Go Go.RowKit

section
variable {P : Program} {gl : Nat → Option (List AV)} {w : World} {G : Gh} {h : Heap}

/-- What a list of parts is filled with. -/
theorem foldl_setIf : ∀ (cs : List Value) (arr : Array Value) (off j0 : Nat), off + j0 + cs.length ≤ arr.size →
    (cs.zipIdx j0).foldl (fun a (p : Value × Nat) => a.setIfInBounds (off + p.2) p.1) arr = (arr.toList.take (off + j0) ++ cs ++ arr.toList.drop (off + j0 + cs.length)).toArray
  | [], arr, off, j0, _ => by simp
  | c :: cs, arr, off, j0, hl => by
    simp only [List.zipIdx_cons, List.foldl_cons]
    rw [foldl_setIf cs _ off (j0 + 1) (by simp at hl ⊢; omega)]
    congr 1
    have e := list_seg_step arr.toList (off + j0) c cs (by simp at hl ⊢; omega)
    simpa [Array.toList_setIfInBounds, Nat.add_assoc] using e

theorem fill_step {place : Nat → Option (Nat × Nat)} {i off size : Nat} {v : Value} {cells : Array Value} {rest : List (Nat × Value)} (hp : place i = some (off, size)) (hs : v.cells.size = size) (hle : off + size ≤ cells.size) :
    Instr.fill place cells ((i, v) :: rest) = Instr.fill place (cells.toList.take off ++ v.cells.toList ++ cells.toList.drop (off + size)).toArray rest := by
  have hf := foldl_setIf v.cells.toList cells off 0 (by simp; omega)
  simp only [Nat.add_zero] at hf
  rw [show v.cells.toList.length = size from by simpa using hs] at hf
  simp only [Instr.fill, hp]
  rw [if_neg (by simp [hs]; omega)]
  congr 1
  rw [← hf, ← Array.foldl_toList]
  simp [Array.toList_zipIdx]

/-- Operands as values. -/
def EvOk (w : World) (G : Gh) (ev : Operand → Option AV) (ρ : Operand → Value) : Prop := ∀ x a, ev x = some a → VR w G a (ρ x)

theorem build_fill {fs : List (Nat × Nat)} {ev : Operand → Option AV} {ρ : Operand → Value} (hev : EvOk w G ev ρ) {place : Nat → Option (Nat × Nat)} (hpl : ∀ i x, fs[i]? = some x → place i = some x) :
    ∀ {ps : List (Nat × Operand)} {cs cs' : List AV} {l : List Value}, buildA fs ev cs ps = some cs' → VRL w G cs l →
      ∃ l', Instr.fill place l.toArray (ps.map fun p => (p.1, ρ p.2)) = some l'.toArray ∧ VRL w G cs' l'
  | [], cs, cs', l, hb, hl => by simp [buildA] at hb; subst hb; exact ⟨l, by simp [Instr.fill], hl⟩
  | (i, x) :: ps, cs, cs', l, hb, hl => by
    simp only [buildA] at hb
    split at hb
    · rename_i off size v hi hv
      split at hb
      · rename_i hc
        obtain ⟨hc1, hc2⟩ := hc
        have hvr := (hev x v hv).cells
        have hlen := hvr.length
        have hll := hl.length
        have h1 : (ρ x).cells.size = size := by rw [← hc1, ← hlen]; simp
        have hst := fill_step (rest := ps.map fun p => (p.1, ρ p.2)) (v := ρ x) (cells := l.toArray) (hpl i _ hi) h1 (by simp; omega)
        have hset := setCells_eq (cellsOf v) cs off (by omega)
        rw [hset] at hb
        obtain ⟨l', hl', hvl⟩ := build_fill hev hpl (l := l.take off ++ (ρ x).cells.toList ++ l.drop (off + size)) hb (by rw [hc1]; exact ((hl.take off).append hvr).append (hl.drop _))
        refine ⟨l', ?_, hvl⟩
        rw [List.map_cons, hst]
        simpa using hl'
      · cases hb
    · cases hb

theorem fsG_get : ∀ {fs : List Field} {l : List (Nat × Nat)}, fsG P fs = some l → ∃ g : Field → Nat × Nat, l = fs.map g ∧ ∀ f ∈ fs, ∃ i, P.info? f.type = some i ∧ g f = (f.offset, i.size)
  | [], l, h => by simp [fsG] at h; subst h; exact ⟨fun _ => (0, 0), rfl, by simp⟩
  | f :: fs, l, h => by
    simp only [fsG] at h
    split at h
    · rename_i i l' hi hl'
      simp at h; subst h
      obtain ⟨g, rfl, hg⟩ := fsG_get hl'
      refine ⟨fun f' => ((f'.offset, (P.info? f'.type).elim 0 (·.size))), ?_, ?_⟩
      · simp [hi]
        intro f' hf'
        obtain ⟨i', h1, h2⟩ := hg f' hf'
        rw [h2, h1]; rfl
      · intro f' hf'
        rcases List.mem_cons.1 hf' with rfl | hf'
        · exact ⟨i, hi, by simp [hi]⟩
        · obtain ⟨i', h1, h2⟩ := hg f' hf'
          exact ⟨i', h1, by simp [h1]⟩
    · cases h
theorem run_mapM_places : ∀ {fs : List Field} {l : List (Nat × Nat)}, fsG P fs = some l → (fs.mapM (fun f => do pure (f.offset, ← sizeOf f.type) : Field → Sem (Nat × Nat))).run P w = .ok l w
  | [], l, h => by simp [fsG] at h; subst h; simp
  | f :: fs, l, h => by
    simp only [fsG] at h
    split at h
    · rename_i i l' hi hl'
      simp at h; subst h
      have ih := run_mapM_places hl'
      simp only [List.mapM_cons, Sem.run_bind, run_size hi, Result.andThen_ok, Sem.run_pure, ih]
    · cases h

theorem build_run {t : Nat} {fs : List (Nat × Nat)} {z : List AV} {cs : List AV} {ev : Operand → Option AV} {ρ : Operand → Value} {ps : Array (Nat × Operand)} (hev : EvOk w G ev ρ)
    (hfs : fsP P t = some fs) (hz : zrP P t = some (.agg z)) (hb : buildA fs ev z ps.toList = some cs) :
    ∃ v, (Instr.build t (ps.map fun (i, x) => (i, ρ x))).run P w = .ok v w ∧ VR w G (.agg cs) v := by
  obtain ⟨i, u, hi, hu, hzv⟩ := zrP_some hz
  have hv : VR w G (.agg z) u := ofV_VR hzv
  obtain ⟨l, rfl, hl⟩ := hv
  unfold fsP at hfs
  split at hfs
  · rename_i fields hf
    have hm := run_mapM_places (w := w) hfs
    obtain ⟨l', hl', hvl⟩ := build_fill hev (place := (fs.toArray[·]?)) (fun i x hx => by simpa using hx) hb hl
    refine ⟨.agg l'.toArray, ?_, l', rfl, hvl⟩
    have hmA : (fields.mapM (fun f => do pure (f.offset, ← sizeOf f.type) : Field → Sem (Nat × Nat))).run P w = .ok fs.toArray w := by
      rw [Array.mapM_eq_mapM_toList]
      simp only [Sem.run_map, hm, Result.andThen_ok]
    simp only [Instr.build, Sem.run_bind, run_zero hi hu, Result.andThen_ok, run_underlying hf, hmA]
    have : (ps.map fun (i, x) => (i, ρ x)).toList = ps.toList.map fun p => (p.1, ρ p.2) := by simp
    simp only [Value.cells, this, hl', Sem.run_pure]
  · cases hfs

end
end Go.Proofs.YtfckkiebffmkfaaGreatDoor.AM
