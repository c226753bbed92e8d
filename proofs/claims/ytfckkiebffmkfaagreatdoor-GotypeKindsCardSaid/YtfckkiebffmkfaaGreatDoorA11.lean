/- The abstract operations against the machine's, further: slices that are built, and appended to. -/
import Derived.Test.YtfckkiebffmkfaaGreatDoorA10
import Derived.Laws.Append
namespace Go.Proofs.YtfckkiebffmkfaaGreatDoor.AM
open Go Go.RowKit

section
variable {P : Program} {gl : Nat → Option (List AV)} {w : World} {G : Gh} {h : Heap} {T : Tab}

theorem flat_set {sz : Nat} {els : List AV} (hu : Uni sz els) {i : Nat} (hi : i < els.length) {e : AV} (he : (cellsOf e).length = sz) :
    (els.set i e).flatMap cellsOf = (els.flatMap cellsOf).take (i * sz) ++ cellsOf e ++ (els.flatMap cellsOf).drop (i * sz + sz) := by
  rw [List.set_eq_take_append_cons_drop, if_pos hi, List.flatMap_append, List.flatMap_cons, flat_take i hu, flat_drop (i + 1) hu, Nat.add_mul, Nat.one_mul]
  simp
theorem Uni.set {sz : Nat} {els : List AV} (hu : Uni sz els) (i : Nat) {e : AV} (he : (cellsOf e).length = sz) : Uni sz (els.set i e) := by
  intro x hx
  rcases List.mem_or_eq_of_mem_set hx with hx | rfl
  · exact hu x hx
  · exact he
theorem cells_fg2_length (a : AV) : (cellsOf (fg2 a)).length = (cellsOf a).length := by rw [cells_fg2]; simp

theorem fill_run {sz : Nat} {ev : Operand → Option AV} {ρ : Operand → Value} (hev : EvOk w G ev ρ) :
    ∀ {ps : List (Nat × Operand)} {els els' : List AV} {l : List Value}, fillA sz ev els ps = some els' → Uni sz els → VRL w G (els.flatMap cellsOf) l →
      ∃ l', Instr.fill (fun i => some (i * sz, sz)) l.toArray (ps.map fun p => (p.1, ρ p.2)) = some l'.toArray ∧ Uni sz els' ∧ VRL w G (els'.flatMap cellsOf) l' ∧ els'.length = els.length
  | [], els, els', l, hb, hu, hl => by simp [fillA] at hb; subst hb; exact ⟨l, by simp [Instr.fill], hu, hl, rfl⟩
  | (i, x) :: ps, els, els', l, hb, hu, hl => by
    simp only [fillA] at hb
    split at hb
    · rename_i v hv
      split at hb
      · rename_i hc
        obtain ⟨hc1, hc2⟩ := hc
        have hvr := (hev x v hv).fg2.cells
        have hlen := hvr.length
        have hll := hl.length
        rw [flat_length hu] at hll
        rw [cells_fg2_length, hc1] at hlen
        have h1 : (ρ x).cells.size = sz := by simpa using hlen
        have hle : i * sz + sz ≤ els.length * sz := by
          have := Nat.mul_le_mul_right sz (show i + 1 ≤ els.length from hc2)
          rwa [Nat.add_mul, Nat.one_mul] at this
        have hst := fill_step (place := fun i => some (i * sz, sz)) (rest := ps.map fun p => (p.1, ρ p.2)) (v := ρ x) (cells := l.toArray) (i := i) rfl h1 (by simp; omega)
        have hfe : (cellsOf (fg2 v)).length = sz := by rw [cells_fg2_length, hc1]
        obtain ⟨l', hl', hu', hvl, hle'⟩ := fill_run hev (l := l.take (i * sz) ++ (ρ x).cells.toList ++ l.drop (i * sz + sz)) hb (hu.set i hfe) (by
          rw [flat_set hu hc2 hfe]
          exact ((hl.take _).append hvr).append (hl.drop _))
        refine ⟨l', ?_, hu', hvl, by simpa using hle'⟩
        rw [List.map_cons, hst]
        simpa using hl'
      · cases hb
    · cases hb

theorem zeros_VRL {z : AV} {v : Value} (hv : VR w G z v) : ∀ n, VRL w G ((zerosA n z).flatMap cellsOf) ((List.replicate n v.cells.toList).flatten)
  | 0 => rfl
  | n + 1 => by
    simp only [zerosA, List.replicate_succ, List.flatMap_cons, List.flatten_cons]
    exact hv.cells.append (zeros_VRL hv n)
theorem zeros_uni {z : AV} {sz : Nat} (hz : (cellsOf z).length = sz) (n : Nat) : Uni sz (zerosA n z) := by
  intro e he
  rw [zerosA, List.mem_replicate] at he
  rw [he.2, hz]
theorem flatten_get (c : List Value) (n j : Nat) (hc : 0 < c.length) (hj : j < n * c.length) : ((List.replicate n c).flatten)[j]? = c[j % c.length]? := by
  induction n generalizing j with
  | zero => simp at hj
  | succ n ih =>
    rw [List.replicate_succ, List.flatten_cons]
    rcases Nat.lt_or_ge j c.length with h | h
    · rw [List.getElem?_append_left h, Nat.mod_eq_of_lt h]
    · rw [List.getElem?_append_right h, ih _ (by rw [Nat.add_mul] at hj; omega), Nat.mod_eq_sub_mod h]
theorem range_zeros (c : Array Value) (n : Nat) (hc : 0 < c.size) : (Array.range (n * c.size)).map (fun i => c[i % c.size]!) = ((List.replicate n c.toList).flatten).toArray := by
  apply Array.ext'
  apply List.ext_getElem?
  intro j
  rcases Nat.lt_or_ge j (n * c.size) with h | h
  · rw [List.toList_toArray, flatten_get _ _ _ (by simpa using hc) (by simpa using h)]
    have h2 : j % c.size < c.size := Nat.mod_lt _ hc
    simp [h, h2]
  · have h1 : ((Array.range (n * c.size)).map (fun i => c[i % c.size]!)).toList[j]? = none := by
      apply List.getElem?_eq_none; simpa using h
    have h2 : ((List.replicate n c.toList).flatten).toArray.toList[j]? = none := by
      apply List.getElem?_eq_none; simpa using h
    rw [h1, h2]

theorem buildSlice_run {t len e sz by_ : Nat} {r : AV} {ev : Operand → Option AV} {ρ : Operand → Value} {ps : Array (Nat × Operand)} (hg : Good (tabOf P gl) G h w) (hev : EvOk w G ev ρ) (hel : elP P t = some (e, sz, by_))
    (hb : (if len = 0 then (if ps.toList.isEmpty then some (AV.vs sz [] .full) else none) else
      match zrP P e with
      | some z => if (cellsOf z).length = sz ∧ 0 < sz ∧ len * sz ≤ 16777216 then (fillA sz ev (zerosA len z) ps.toList).map (AV.vs sz · .full) else none
      | none => none) = some r) :
    ∃ v w' G', (Instr.buildSlice t len (ps.map fun (i, x) => (i, ρ x))).run P w = .ok v w' ∧ VR w' G' r v ∧ Nx (tabOf P gl) G h w G' h w' := by
  obtain ⟨i, hu, hi, hsz, _⟩ := elP_some hel
  have hps : (ps.map fun (i, x) => (i, ρ x)).toList = ps.toList.map fun p => (p.1, ρ p.2) := by simp
  split at hb
  · rename_i h0
    subst h0
    split at hb
    · rename_i hemp
      simp at hb; subst hb
      have hpe : ps.toList = [] := by simpa using hemp
      have hn := Nx.imm hg #[] e (0, 0) 0
      refine ⟨.slice (some ⟨w.heap.size, 0, none⟩) 0 0, _, _, ?_, ⟨fun e he => by simp at he, _, 0, rfl, by simp, ⟨rfl, fun ad had => .inl rfl⟩, fun hne => absurd rfl hne⟩, hn⟩
      simp [Instr.buildSlice, run_underlying hu, run_size hi, hpe, Instr.fill, run_newRow, show ps = #[] from by simpa using hpe]
      simp [show Array.range 0 = #[] from rfl]
    · cases hb
  · rename_i h0
    split at hb
    · rename_i z hz
      split at hb
      · rename_i hc
        obtain ⟨hzl, hpos, hmax⟩ := hc
        cases hf : fillA sz ev (zerosA len z) ps.toList with
        | none => simp [hf] at hb
        | some els =>
          simp [hf] at hb; subst hb
          obtain ⟨i', u, hi', hzu, hzv⟩ := zrP_some hz
          rw [hi] at hi'
          simp at hi'; subst hi'
          have hv : VR w G z u := ofV_VR hzv
          have hul : u.cells.size = sz := by have := hv.cells.length; rw [hzl] at this; simpa using this
          obtain ⟨l', hl', hu', hvl, hlen⟩ := fill_run hev hf (zeros_uni hzl len) (zeros_VRL hv len)
          have hll := hvl.length
          rw [flat_length hu'] at hll
          have hlen' : els.length = len := by simpa [zerosA] using hlen
          have hn := Nx.imm hg l'.toArray e (0, 0) (els.length * sz)
          refine ⟨.slice (some ⟨w.heap.size, 0, none⟩) len len, _, _, ?_, ⟨hu', some ⟨w.heap.size, 0, none⟩, len, by rw [hlen'], by omega, ⟨hlen'.symm, fun ad had => .inr ?_⟩, fun _ => ⟨w.heap.size, 0, rfl, ?_⟩⟩, hn⟩
          · have hz1 := range_zeros u.cells len (by omega)
            rw [hul] at hz1
            have hne : len * sz ≠ 0 := Nat.mul_ne_zero h0 (by omega)
            have hmx : ¬ (16777216 < len * sz) := by omega
            simp only [Instr.buildSlice, run_underlying hu, Sem.run_bind, Result.andThen_ok, run_size hi, hsz, Sem.run_ite, show (2 : Nat) ^ 24 = 16777216 from rfl, gt_iff_lt, hmx, hne, if_false, Result.andThen_ite, Sem.run_pure, run_zero hi hzu, hul, hz1, hps, hl', run_newRow]
          · simp at had; subst had; exact hg.Bsz
          · rw [RowR.iff]
            refine CelR.new hn.step hvl (rest := []) (heap_alloc_new _ _) (by simp) fun o ho => .inr ⟨rfl, ?_⟩
            rwa [flat_length hu'] at ho
      · cases hb
    · cases hb

end
end Go.Proofs.YtfckkiebffmkfaaGreatDoor.AM
