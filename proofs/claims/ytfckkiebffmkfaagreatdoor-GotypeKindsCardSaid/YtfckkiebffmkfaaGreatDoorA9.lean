/- The abstract operations against the machine's, further: conversions, cuts of strings and slices. -/
import Derived.Test.YtfckkiebffmkfaaGreatDoorA8
import Derived.Laws.BytesArg
import Derived.Laws.AppendOwn
namespace Go.Proofs.YtfckkiebffmkfaaGreatDoor.AM
open Go Go.RowKit

section
variable {P : Program} {gl : Nat → Option (List AV)} {w : World} {G : Gh} {h : Heap}

theorem ikP_some {t : Nat} {k : IntKind} (hh : ikP P t = some k) : P.underlying t = some (.int k) := by
  unfold ikP at hh
  split at hh
  · simp at hh; subst hh; assumption
  · cases hh

theorem row_nil {c o : Nat} : RowR w G c o [] := trivial

theorem conv_run {src dst : Nat} {x r : AV} {vx : Value} (hg : Good (tabOf P gl) G h w) (hl : convA (tabOf P gl) src dst x = some r) (hx : VR w G x vx) :
    ∃ v w' G', (convert src dst vx).run P w = .ok v w' ∧ VR w' G' r v ∧ Nx (tabOf P gl) G h w G' h w' := by
  unfold convA at hl
  split at hl
  · rename_i k0 n
    split at hl
    · rename_i k k1 h1 h2
      simp at hl; subst hl
      obtain rfl := hx
      have h3 := ikP_some h1
      have h4 := ikP_some h2
      exact ⟨_, w, G, by simp [convert, run_underlying h3, run_underlying h4, Conv.intToInt], rfl, Nx.refl hg⟩
    · cases hl
  · rename_i s
    split at hl
    · rename_i hc
      obtain ⟨h1, h2⟩ := hc
      simp at hl; subst hl
      obtain rfl := hx
      obtain ⟨e, i, h3, h4, h5, h6⟩ := bsP_some h1
      have hrun := run_bytes_of_string w src dst e (⟨s.toArray⟩ : ByteArray) (stP_some h2) h3 h4
      have hd := Nx.drawn hg (w.drawn + 1)
      have hsz : (⟨s.toArray⟩ : ByteArray).size = s.length := by simp [ByteArray.size]
      have hi := Nx.imm hd.good (bytesRow (⟨s.toArray⟩ : ByteArray) (grownCap w (⟨s.toArray⟩ : ByteArray).size 0 e)) e ((bytesRow (⟨s.toArray⟩ : ByteArray) (grownCap w (⟨s.toArray⟩ : ByteArray).size 0 e)).size, (bytesRow (⟨s.toArray⟩ : ByteArray) (grownCap w (⟨s.toArray⟩ : ByteArray).size 0 e)).size + 1) s.length
      refine ⟨_, _, _, hrun, ?_, hd.trans hi⟩
      refine ⟨bytesA_uni s, some ⟨w.heap.size, 0, none⟩, grownCap w (⟨s.toArray⟩ : ByteArray).size 0 e, by rw [bytesA_length, hsz], ?_, trivial, fun _ => ⟨w.heap.size, 0, rfl, ?_⟩⟩
      · rw [bytesA_length]
        have := grownCap_ge w (⟨s.toArray⟩ : ByteArray).size 0 e
        omega
      · rw [RowR.iff, bytesA_flat]
        refine CelR.new (w := w) (G := G) (hd.trans hi).step (bytesA_VRL s) (rest := List.replicate (grownCap w (⟨s.toArray⟩ : ByteArray).size 0 e - s.length) (.int .u8 0)) (heap_alloc_new _ _) ?_ ?_
        · simp [bytesRow, hsz]
        · intro o ho
          rw [bytesA_length] at ho
          exact .inr ⟨rfl, ho⟩
    · cases hl
  · rename_i sz els own
    split at hl
    · rename_i he
      subst he
      split at hl
      · rename_i e0 es0
        split at hl
        · rename_i h1
          obtain ⟨h1, rfl⟩ := h1
          simp at hl; subst hl
          have hx0 := hx
          obtain ⟨hu, a, cap, rfl, hlen, hown, hr⟩ := hx
          obtain ⟨c, o, rfl, hrow⟩ := hr (by simp)
          obtain ⟨e, i, h3, h4, h5, h6⟩ := bsP_some h1
          obtain ⟨hfull, hBc⟩ := hown
          have hBc' : G.B ≤ c := by
            rcases hBc _ rfl with h | h
            · simp at h
            · exact h
          have hc0 : ∃ u, w.cell? ⟨c, o, none⟩ = some u ∧ G.S c o := by
            have h7 := hrow.get hu (i := 0) (e := e0) rfl
            have h8 := (Uni.tail hu).1
            cases hcs : cellsOf e0 with
            | nil => rw [hcs] at h8; simp at h8
            | cons x xs =>
              rw [hcs] at h7
              obtain ⟨⟨u, h9, h10, _⟩, _⟩ := h7
              exact ⟨u, by simpa using h9, by simpa using h10⟩
          obtain ⟨u, hcu, hS⟩ := hc0
          have hblk : ∃ arr ty fr, w.heap[c]? = some (.cells arr ty fr) := by
            simp only [World.cell?] at hcu
            split at hcu
            · rename_i arr ty fr hb; exact ⟨arr, ty, fr, hb⟩
            · cases hcu
          obtain ⟨arr, ty, fr, hb⟩ := hblk
          have hn := Nx.mark hg hb hS hBc'
          refine ⟨_, _, _, ?_, hx0.mono hn.step, hn⟩
          have hm := run_markStringish (P := P) (o := o) hb
          have e1 : (convert src src (.slice (some ⟨c, o, none⟩) (e0 :: es0).length cap)).run P w = ((markStringish ⟨c, o, none⟩).run P w).andThen fun _ w' => .ok (.slice (some ⟨c, o, none⟩) (e0 :: es0).length cap) w' := by
            simp [convert, run_underlying h3, run_underlying h4]
          rw [e1, hm]
          rfl
        · cases hl
      · cases hl
    · split at hl
      · rename_i hne hc
        obtain ⟨h1, h2, rfl⟩ := hc
        cases hub : unbytes els with
        | none => simp [hub] at hl
        | some s =>
          simp [hub] at hl
          subst hl
          obtain ⟨hu, a, cap, rfl, hlen, hown, hr⟩ := hx
          obtain ⟨e, i, h3, h4, h5, h6⟩ := bsP_some h1
          have h7 := stP_some h2
          refine ⟨.string ⟨s.toArray⟩, w, G, ?_, rfl, Nx.refl hg⟩
          by_cases hnil : els = []
          · subst hnil
            simp [unbytes] at hub; subst hub
            rw [run_convert_bytes_string w src dst e a _ cap h3 h4 h7]
            cases a with
            | none => simp [Conv.bytesToString]; rfl
            | some ad => simp [Conv.bytesToString, loadCells, loadCellsFrom]; rfl
          · obtain ⟨c, o, rfl, hrow⟩ := hr hnil
            have hfl : els.flatMap cellsOf = els := by
              clear hr hrow hlen hown hnil
              revert s
              induction els with
              | nil => intros; rfl
              | cons e es ih =>
                intro s hub
                unfold unbytes at hub
                split at hub
                · rename_i heq; cases heq
                · rename_i n es' heq
                  injection heq with e1 e2
                  subst e1; subst e2
                  cases hu2 : unbytes es with
                  | none => simp [hu2] at hub
                  | some s' => rw [List.flatMap_cons, ih (Uni.tail hu).2 s' hu2]; rfl
                · cases hub
            rw [RowR.iff, hfl] at hrow
            obtain ⟨l, hvl, hcell⟩ := hrow.vals
            obtain ⟨xs, rfl, rfl⟩ := unbytes_some hub hvl
            have hxl : xs.length = els.length := by have := hvl.length; simpa using this
            have := run_convert_bytes_arg w src e h3 h4 c o els.length cap xs hxl (fun j hj => by
              refine hcell j _ ?_
              rw [List.getElem?_map, List.getElem?_eq_getElem (by omega)]
              simp [List.getD, List.getElem?_eq_getElem (show j < xs.length by omega)]) dst h7
            exact this
      · cases hl
  · cases hl

theorem bound_of {x : Option AV} {vx : Option Value} {top dflt n : Nat} (hb : boundA x top dflt = some n) (hx : ∀ a, x = some a → ∃ v, vx = some v ∧ VR w G a v) (hn : x = none → vx = none) :
    (∃ k i, vx = some (.int k i) ∧ 0 ≤ i ∧ i ≤ (top : Int) ∧ n = i.toNat) ∨ (vx = none ∧ n = dflt) := by
  unfold boundA at hb
  split at hb
  · simp at hb; exact .inr ⟨hn rfl, hb.symm⟩
  · rename_i k i
    split at hb
    · rename_i hc
      simp at hb; subst hb
      obtain ⟨v, rfl, hv⟩ := hx _ rfl
      obtain rfl := hv
      exact .inl ⟨k, i, rfl, hc.1, hc.2, rfl⟩
    · cases hb
  · cases hb
theorem run_bound (k : IntKind) (i : Int) (top : Nat) (code : BoundsCode) (h0 : 0 ≤ i) (h1 : i ≤ (top : Int)) (w : World) : (Instr.sliceBound (.int k i) top code).run P w = .ok i.toNat w := by
  simp [Instr.sliceBound, asIntOf, h0, h1]

theorem slice_run {t : Nat} {x r : AV} {vx : Value} {lo hi mx : Option AV} {vlo vhi vmx : Option Value} (hl : sliceA (tabOf P gl) t x lo hi mx = some r) (hx : VR w G x vx)
    (h1 : ∀ a, lo = some a → ∃ v, vlo = some v ∧ VR w G a v) (n1 : lo = none → vlo = none) (h2 : ∀ a, hi = some a → ∃ v, vhi = some v ∧ VR w G a v) (n2 : hi = none → vhi = none) (n3 : mx = none → vmx = none) :
    ∃ v, (Instr.sliceAt t vx vlo vhi vmx).run P w = .ok v w ∧ VR w G r v := by
  unfold sliceA at hl
  split at hl
  · rename_i s
    split at hl
    · cases hl
    · cases hl
    · rename_i hst
      have hu := stP_some (P := P) hst
      split at hl
      · rename_i e he
        split at hl
        · rename_i b hb
          simp at hl; subst hl
          obtain rfl := hx
          obtain rfl := n3 rfl
          have hs : (⟨s.toArray⟩ : ByteArray).size = s.length := by simp [ByteArray.size]
          refine ⟨.string ⟨((s.take e).drop b).toArray⟩, ?_, rfl⟩
          have hex : (⟨s.toArray⟩ : ByteArray).extract b e = ⟨((s.take e).drop b).toArray⟩ := by
            apply ByteArray.ext
            simp [List.drop_take]
          rcases bound_of he h2 n2 with ⟨k, i, rfl, h0, h3, rfl⟩ | ⟨rfl, rfl⟩
          · rcases bound_of hb h1 n1 with ⟨k', i', rfl, h0', h3', rfl⟩ | ⟨rfl, rfl⟩
            · simp [Instr.sliceAt, run_underlying hu, Instr.slice, Instr.sliceBounds, hs, run_bound k i s.length _ h0 h3, run_bound k' i' _ _ h0' h3', hex]
            · simp [Instr.sliceAt, run_underlying hu, Instr.slice, Instr.sliceBounds, hs, run_bound k i s.length _ h0 h3, hex]
          · rcases bound_of hb h1 n1 with ⟨k', i', rfl, h0', h3', rfl⟩ | ⟨rfl, rfl⟩
            · simp [Instr.sliceAt, run_underlying hu, Instr.slice, Instr.sliceBounds, hs, run_bound k' i' _ _ h0' h3', hex]
            · simp [Instr.sliceAt, run_underlying hu, Instr.slice, Instr.sliceBounds, hs, hex]
        · cases hl
      · cases hl
  · rename_i sz els own
    split at hl
    · rename_i et sz' by_ hel
      split at hl
      · rename_i hsz
        subst hsz
        split at hl
        · rename_i e he
          split at hl
          · rename_i b hb
            simp at hl; subst hl
            obtain rfl := n3 rfl
            obtain ⟨inf, hu, hinf, hs, _⟩ := elP_some hel
            obtain ⟨hun, a, cap, rfl, hlen, _, hr⟩ := hx
            have key : ∀ (hrun : (Instr.sliceBounds true els.length cap vlo vhi none).run P w = .ok (b, e, cap) w) (hbe : b ≤ e) (hee : e ≤ els.length), ∃ v, (Instr.sliceAt t (.slice a els.length cap) vlo vhi none).run P w = .ok v w ∧ VR w G (.vs sz' ((els.take e).drop b) .any) v := by
              intro hrun hbe hee
              refine ⟨.slice (if cap = b then a else a.map (·.add (b * sz'))) (e - b) (cap - b), ?_, (hun.take e).drop b, (if cap = b then a else a.map (·.add (b * sz'))), cap - b, ?_, ?_, trivial, fun hne => ?_⟩
              · simp [Instr.sliceAt, run_underlying hu, Instr.slice, hrun, run_size hinf, hs]
              · simp; omega
              · simp; omega
              · have hlt : b < e := by
                  rcases Nat.lt_or_ge b e with h | h
                  · exact h
                  · exact absurd (by simp; omega) hne
                have hne' : els ≠ [] := by rintro rfl; simp at hee; omega
                obtain ⟨c, o, rfl, hrow⟩ := hr hne'
                refine ⟨c, o + b * sz', ?_, (hrow.take hun e).drop (hun.take e) b⟩
                rw [if_neg (by omega)]
                simp [add_mk]
            rcases bound_of he h2 n2 with ⟨k, i, rfl, h0, h3, rfl⟩ | ⟨rfl, rfl⟩
            · rcases bound_of hb h1 n1 with ⟨k', i', rfl, h0', h3', rfl⟩ | ⟨rfl, rfl⟩
              · exact key (by simp [Instr.sliceBounds, run_bound k i cap _ h0 (by omega), run_bound k' i' _ _ h0' h3']) (by omega) (by omega)
              · exact key (by simp [Instr.sliceBounds, run_bound k i cap _ h0 (by omega)]) (by omega) (by omega)
            · rcases bound_of hb h1 n1 with ⟨k', i', rfl, h0', h3', rfl⟩ | ⟨rfl, rfl⟩
              · exact key (by simp [Instr.sliceBounds, run_bound k' i' _ _ h0' h3']) (by omega) (Nat.le_refl _)
              · exact key (by simp [Instr.sliceBounds]) (by omega) (Nat.le_refl _)
          · cases hl
        · cases hl
      · cases hl
    · cases hl
  · cases hl

end
end Go.Proofs.YtfckkiebffmkfaaGreatDoor.AM
