/- The abstract append against the machine's. -/
import Derived.Test.YtfckkiebffmkfaaGreatDoorA11
namespace Go.Proofs.YtfckkiebffmkfaaGreatDoor.AM
open Go Go.RowKit

section
variable {P : Program} {gl : Nat → Option (List AV)} {w : World} {G : Gh} {h : Heap} {T : Tab}

/-- A row that grew comes to lie in a new block. -/
theorem Nx.regrow (hg : Good T G h w) {b sz : Nat} {i : GInfo} (hi : G.g b = some i) (hb : h.get b = some (.grow sz i.len)) (len cap : Nat) (arr : Array Value) (ty : TypeId) (harr : arr.size = cap * sz) (hlen : len ≤ cap) (hlt : i.len < len) :
    Nx T G h w (G.grown b ⟨w.heap.size, cap, len⟩ (len * sz)) (h.set b (.grow sz len)) (w.alloc (.cells arr ty)) := by
  have hs : Step G w (G.grown b ⟨w.heap.size, cap, len⟩ (len * sz)) (w.alloc (.cells arr ty)) := by
    refine ⟨rfl, fun _ _ h => h, fun b' i' hb' => ?_, fun _ _ h => .inl h, fun c o hso => World.cell?_alloc_lt w _ _ (hg.S c o hso), below_alloc _ _ _ hg.Bsz, fun c o h => h.elim .inl (fun h => .inr (by have := hg.Bsz; have := h.1; simp at this; omega))⟩
    by_cases e : b' = b
    · subst e
      rw [hi] at hb'
      simp at hb'; subst hb'
      exact ⟨_, by simp [Gh.grown]; rfl, .inr hlt⟩
    · exact ⟨i', by simp [Gh.grown, e, hb'], .inl rfl⟩
  refine ⟨hg.next hs ?_ hg.inj ?_ ?_ ?_ ?_, hs, fun b' hb' h1 h2 => ⟨h1, ?_, Heap.get_set_ne h _ (fun e => by subst e; rw [hi] at h2; cases h2)⟩, by rw [Heap.n_set]; exact Nat.le_refl _⟩
  · intro b' c hb'
    have hlt := (hg.m b' c hb').2.lt
    refine .inl ⟨hb', Heap.get_set_ne h _ (fun e => ?_), heap_alloc_old _ _ hlt, fun o ho => ?_⟩
    · subst e
      have := (hg.m b c hb').2
      rw [hb] at this
      exact this.elim
    · rcases ho with ho | ho
      · exact ho
      · have : c = w.heap.size := ho.1
        omega
  · intro b' i' hb'
    by_cases e : b' = b
    · subst e
      simp [Gh.grown] at hb'
      subst hb'
      refine .inr ⟨hg.Bsz, sz, Heap.get_set_same hb, arr, ty, (0, 0), heap_alloc_new _ _, .inl rfl, harr, hlen, fun o ho hso => ?_⟩
      rcases hso with hso | hso
      · have := hg.S _ _ hso
        simp at this
      · exact absurd hso.2 (Nat.not_lt.2 ho)
    · have hb'' : G.g b' = some i' := by simpa [Gh.grown, e] using hb'
      obtain ⟨_, sz', _, h3⟩ := hg.g b' i' hb''
      have hlt := h3.lt
      refine .inl ⟨hb'', Heap.get_set_ne h _ (fun e' => e e'.symm), heap_alloc_old _ _ hlt, fun o ho => ?_⟩
      rcases ho with ho | ho
      · exact ho
      · have : i'.c = w.heap.size := ho.1
        omega
  · intro b1 b2 i1 i2 hb1 hb2 he
    by_cases e1 : b1 = b <;> by_cases e2 : b2 = b
    · rw [e1, e2]
    · have h2' : G.g b2 = some i2 := by simpa [Gh.grown, e2] using hb2
      subst e1
      simp [Gh.grown] at hb1; subst hb1
      obtain ⟨_, sz', _, h3⟩ := hg.g b2 i2 h2'
      have hlt := h3.lt
      simp at he
      omega
    · have h1' : G.g b1 = some i1 := by simpa [Gh.grown, e1] using hb1
      subst e2
      simp [Gh.grown] at hb2; subst hb2
      obtain ⟨_, sz', _, h3⟩ := hg.g b1 i1 h1'
      have hlt := h3.lt
      simp at he
      omega
    · exact hg.ginj b1 b2 i1 i2 (by simpa [Gh.grown, e1] using hb1) (by simpa [Gh.grown, e2] using hb2) he
  · intro b1 c1 b2 i2 hb1 hb2 he
    by_cases e2 : b2 = b
    · subst e2
      have hlt := (hg.m b1 c1 hb1).2.lt
      simp [Gh.grown] at hb2; subst hb2
      simp at he
      omega
    · exact hg.mg b1 c1 b2 i2 hb1 (by simpa [Gh.grown, e2] using hb2) he
  · intro c o ho
    rcases ho with ho | ho
    · have := hg.S c o ho; simp; omega
    · have : c = w.heap.size := ho.1
      simp; omega
  · by_cases e : b' = b
    · subst e; rw [hi] at h2; cases h2
    · simp [Gh.grown, e, h2]

theorem run_firstCells {c o : Nat} {size n cap len : Nat} {l : List Value} (hl : l.length = n * size) (hc : ∀ j v, l[j]? = some v → w.cell? ⟨c, o + j, none⟩ = some v) :
    (Builtin.firstCells size n (.slice (some ⟨c, o, none⟩) len cap)).run P w = .ok l.toArray w := by
  have := run_loadCells_list (P := P) w ⟨c, o, none⟩ l (fun j v hv => by rw [add_mk]; exact hc j v hv)
  rw [hl] at this
  simpa [Builtin.firstCells] using this

/-- The cells of a by-value slice, as they lie in memory. -/
theorem vs_cells {sz : Nat} {els : List AV} {own : Own} {v : Value} (hx : VR w G (.vs sz els own) v) (n : Nat) (size : Nat) (hn : els.length = n) (hs : els = [] ∨ sz = size) :
    ∃ a cap l, v = .slice a n cap ∧ n ≤ cap ∧ OwnR G n a cap own ∧ VRL w G (els.flatMap cellsOf) l ∧ l.length = n * size ∧
      (∀ W : World, (∀ c o, G.S c o → W.cell? ⟨c, o, none⟩ = w.cell? ⟨c, o, none⟩) → (Builtin.firstCells size n v).run P W = .ok l.toArray W) ∧
      (els ≠ [] → ∃ c o, a = some ⟨c, o, none⟩ ∧ (∀ j v, l[j]? = some v → w.cell? ⟨c, o + j, none⟩ = some v ∧ G.S c (o + j))) := by
  obtain ⟨hu, a, cap, rfl, hlen, hown, hr⟩ := hx
  subst hn
  by_cases hne : els = []
  · subst hne
    refine ⟨a, cap, [], rfl, hlen, hown, rfl, by simp, ?_, fun h => absurd rfl h⟩
    intro W _
    cases a with
    | none => simp [Builtin.firstCells]
    | some ad => simp [Builtin.firstCells, loadCells, loadCellsFrom]
  · obtain rfl : sz = size := hs.resolve_left hne
    obtain ⟨c, o, rfl, hrow⟩ := hr hne
    rw [RowR.iff] at hrow
    obtain ⟨l, hvl, hc⟩ := hrow.vals
    have hll := hvl.length
    rw [flat_length hu] at hll
    refine ⟨_, cap, l, rfl, hlen, hown, hvl, hll, fun W hW => ?_, fun _ => ⟨c, o, rfl, fun j v hv => ?_⟩⟩
    · refine run_firstCells hll fun j v hv => ?_
      have hj : j < (els.flatMap cellsOf).length := by rw [← hvl.length]; exact (List.getElem?_eq_some_iff.1 hv).1
      obtain ⟨u, h1, h2, h3⟩ := CelR.iff.1 hrow j _ (List.getElem?_eq_getElem hj)
      rw [hW _ _ h2]
      exact hc j v hv
    · have hj : j < (els.flatMap cellsOf).length := by rw [← hvl.length]; exact (List.getElem?_eq_some_iff.1 hv).1
      obtain ⟨u, h1, h2, h3⟩ := CelR.iff.1 hrow j _ (List.getElem?_eq_getElem hj)
      exact ⟨hc j v hv, h2⟩

theorem isC_flat {more : List AV} (hm : (more.all fun e => (cellsOf e).all isC) = true) : (more.flatMap cellsOf).all isC = true := by
  induction more with
  | nil => rfl
  | cons e es ih =>
    simp only [List.all_cons, Bool.and_eq_true] at hm
    rw [List.flatMap_cons, List.all_append, hm.1, ih hm.2]
    rfl
theorem flat_fg2 (more : List AV) : (more.map fg2).flatMap cellsOf = (more.flatMap cellsOf).map fg1 := by
  induction more with
  | nil => rfl
  | cons e es ih => rw [List.map_cons, List.flatMap_cons, ih, cells_fg2, List.flatMap_cons, List.map_append]

theorem zeroCells_size (z : Array Value) (n : Nat) : (Builtin.zeroCells z n).size = n * z.size := by simp [Builtin.zeroCells]

theorem run_append {t ty e : TypeId} {i : TypeInfo} {z : Value} (ht : P.underlying t = some (.slice e)) (hi : P.info? e = some i) (hz : i.zero = some z) (base : Option Addr) (sLen sCap n : Nat) (a : Option Addr) (c : Nat) (olds news : List Value)
    (hn : 0 < n) (hb : 0 < i.bytes) (hlo : ∀ W : World, W.heap = w.heap → (Builtin.firstCells i.size sLen (.slice base sLen sCap)).run P W = .ok olds.toArray W) (hln : ∀ W : World, W.heap = w.heap → (Builtin.firstCells i.size n (.slice a n c)).run P W = .ok news.toArray W)
    (hgr : sCap < sLen + n) (hfit : (sLen + n) * i.bytes ≤ 140737488355328) :
    (Builtin.append_ #[t, t] ty #[.slice base sLen sCap, .slice a n c]).run P w =
      .ok (.slice (some ⟨w.heap.size, 0, none⟩) (sLen + n) (grownCap w (sLen + n) sCap e))
        (w.drew.alloc (.cells (olds.toArray ++ news.toArray ++ Builtin.zeroCells z.cells (grownCap w (sLen + n) sCap e - (sLen + n))) e)) := by
  have hn' : ¬ (sLen + n ≤ sCap) := by omega
  have h48 : ¬ (281474976710656 < Builtin.nextslicecap (sLen + n) sCap * i.bytes) := by have := growslice_fits (bytes := i.bytes) hgr hfit; omega
  have hb0 : ¬ i.bytes = 0 := by omega
  have h1 := hlo w.drew rfl
  have h2 := hln w.drew rfl
  simp [Builtin.append_, run_underlying ht, sizeOf, typeInfo, zeroValue, hi, hz, Builtin.lenOf, hn', h48, hb0, Question.forced, h1, h2, newRow, grownCap]
  congr 2
  apply Array.ext'
  simp [List.append_assoc]
theorem run_append_in {t ty e : TypeId} {i : TypeInfo} (ht : P.underlying t = some (.slice e)) (hi : P.info? e = some i) (c0 sLen sCap n : Nat) (a : Option Addr) (c : Nat) (news : List Value) (w' : World)
    (hln : (Builtin.firstCells i.size n (.slice a n c)).run P w = .ok news.toArray w) (hst : (storeCells ⟨c0, sLen * i.size, none⟩ news).run P w = .ok () w') (hgr : sLen + n ≤ sCap) :
    (Builtin.append_ #[t, t] ty #[.slice (some ⟨c0, 0, none⟩) sLen sCap, .slice a n c]).run P w = .ok (.slice (some ⟨c0, 0, none⟩) (sLen + n) sCap) w' := by
  simp [Builtin.append_, run_underlying ht, sizeOf, typeInfo, hi, Builtin.lenOf, hgr, hln, add_mk, hst]

theorem append_run {t ty e sz by_ : Nat} {r z : AV} {h' : Heap} {sz0 sz1 : Nat} {els more : List AV} {own own1 : Own} {vx vy : Value} (hg : Good (tabOf P gl) G h w) (hel : elP P t = some (e, sz, by_)) (hz : zrP P e = some z) (hzl : (cellsOf z).length = sz)
    (hs0 : sz0 = sz ∨ els.isEmpty = true) (hs1 : sz1 = sz ∨ more.isEmpty = true) (hA : appendA sz by_ h els own more = some (r, h')) (hx : VR w G (.vs sz0 els own) vx) (hy : VR w G (.vs sz1 more own1) vy) :
    ∃ v w' G', (Builtin.append_ #[t, t] ty #[vx, vy]).run P w = .ok v w' ∧ VR w' G' r v ∧ Nx (tabOf P gl) G h w G' h' w' := by
  obtain ⟨i, hu, hi, hsz, hby⟩ := elP_some hel
  obtain ⟨i', zv, hi', hzu, hzv⟩ := zrP_some hz
  rw [hi] at hi'
  simp at hi'; subst hi'
  have hzsz : zv.cells.size = sz := by
    have hv : VR w G z zv := ofV_VR hzv
    have := hv.cells.length
    rw [hzl] at this; simpa using this
  have hs0' : els = [] ∨ sz0 = sz := by
    rcases hs0 with h | h
    · exact .inr h
    · exact .inl (by simpa using h)
  have hs1' : more = [] ∨ sz1 = sz := by
    rcases hs1 with h | h
    · exact .inr h
    · exact .inl (by simpa using h)
  have hux : Uni sz els := by
    rcases hs0' with h | h
    · subst h; intro e he; simp at he
    · subst h; exact hx.1
  have huy : Uni sz more := by
    rcases hs1' with h | h
    · subst h; intro e he; simp at he
    · subst h; exact hy.1
  have hx0 := hx
  obtain ⟨a, cap, l, rfl, hcap, hown, hvl, hll, hrunl, hcl⟩ := vs_cells (P := P) hx els.length sz rfl hs0'
  obtain ⟨a1, cap1, l1, rfl, hcap1, hown1, hvl1, hll1, hrunl1, hcl1⟩ := vs_cells (P := P) hy more.length sz rfl hs1'
  unfold appendA at hA
  split at hA
  · simp at hA
    obtain ⟨rfl, rfl⟩ := hA
    refine ⟨.slice a els.length cap, w, G, ?_, ⟨hux, a, cap, rfl, hcap, hown, fun hne => ?_⟩, Nx.refl hg⟩
    · have h1 := hrunl1 w (fun _ _ _ => rfl)
      simp at hll1
      subst hll1
      have hst : ∀ ad : Addr, (storeCells ad [] 0).run P w = .ok () w := fun ad => by simp [storeCells]
      cases a <;> simp [Builtin.append_, run_underlying hu, sizeOf, typeInfo, hi, Builtin.lenOf, hcap, hsz, h1, hst] at *
      all_goals (try simp [h1, hst])
    · obtain ⟨_, a', cap', hv, _, _, hr⟩ := hx0
      simp at hv
      obtain ⟨rfl, rfl⟩ := hv
      exact hr hne
  · rename_i m0 ms
    split at hA
    · rename_i hc
      obtain ⟨hroom, hbpos, hszpos, hisC⟩ := hc
      simp only [roomMax] at hroom
      have hnpos : 0 < (m0 :: ms).length := by simp
      -- what a new block comes to
      have fresh : ∀ (hgr : cap < els.length + (m0 :: ms).length) (G2 : Gh) (h2 : Heap) (b : Nat),
          G2 = G.grown b ⟨w.heap.size, grownCap w (els.length + (m0 :: ms).length) cap e, els.length + (m0 :: ms).length⟩ ((els.length + (m0 :: ms).length) * sz) →
          (∀ (arr : Array Value), arr.size = grownCap w (els.length + (m0 :: ms).length) cap e * sz → Nx (tabOf P gl) G h w.drew G2 h2 (w.drew.alloc (.cells arr e))) →
          ∃ v w' G', (Builtin.append_ #[t, t] ty #[.slice a els.length cap, .slice a1 (m0 :: ms).length cap1]).run P w = .ok v w' ∧ VR w' G' (.vs sz (els ++ (m0 :: ms).map fg2) (.grow b)) v ∧ Nx (tabOf P gl) G h w G' h2 w' := by
        intro hgr G2 h2 b hG2 hnx
        have hrun := run_append (P := P) (w := w) (ty := ty) hu hi hzu a els.length cap (m0 :: ms).length a1 cap1 l l1 hnpos (by omega)
          (fun W hW => by rw [hsz]; exact hrunl W (fun c o _ => by simp [World.cell?, hW])) (fun W hW => by rw [hsz]; exact hrunl1 W (fun c o _ => by simp [World.cell?, hW])) hgr (by rw [hby]; exact hroom)
        have hge := grownCap_ge w (els.length + (m0 :: ms).length) cap e
        have hn := hnx (l.toArray ++ l1.toArray ++ Builtin.zeroCells zv.cells (grownCap w (els.length + (m0 :: ms).length) cap e - (els.length + (m0 :: ms).length))) (by
          simp only [Array.size_append, List.size_toArray, zeroCells_size, hzsz, hll, hll1, ← Nat.add_mul]
          congr 1
          omega)
        refine ⟨_, _, G2, hrun, ?_, (Nx.drawn hg (w.drawn + 1)).trans hn⟩
        have hstep := ((Nx.drawn hg (w.drawn + 1)).trans hn).step
        have huy' : Uni sz ((m0 :: ms).map fg2) := by
          intro x hx
          rw [List.mem_map] at hx
          obtain ⟨y, hy, rfl⟩ := hx
          rw [cells_fg2_length]; exact huy y hy
        refine ⟨hux.append huy', some ⟨w.heap.size, 0, none⟩, _, by simp, by simp at hge ⊢; exact hge, ⟨⟨w.heap.size, grownCap w (els.length + (m0 :: ms).length) cap e, els.length + (m0 :: ms).length⟩, by rw [hG2]; simp [Gh.grown], by simp, fun _ => ⟨rfl, rfl⟩⟩, fun _ => ⟨w.heap.size, 0, rfl, ?_⟩⟩
        rw [RowR.iff, List.flatMap_append, flat_fg2]
        refine CelR.new hstep (hvl.append (hvl1.map fun a v => VR.fg1)) (rest := (Builtin.zeroCells zv.cells (grownCap w (els.length + (m0 :: ms).length) cap e - (els.length + (m0 :: ms).length))).toList) (heap_alloc_new w.drew _) (by simp) fun o ho => ?_
        rw [hG2]
        right
        refine ⟨rfl, ?_⟩
        rw [List.length_append, List.length_map, flat_length hux, flat_length huy, ← Nat.add_mul] at ho
        exact ho
      split at hA
      · cases hA
      · simp at hA
        obtain ⟨rfl, rfl⟩ := hA
        obtain ⟨hfull, _⟩ := hown
        refine fresh (by omega) _ _ h.n rfl fun arr harr => ?_
        have := Nx.grow (Nx.drawn hg (w.drawn + 1)).good sz (els.length + (m0 :: ms).length) (grownCap w (els.length + (m0 :: ms).length) cap e) arr e harr (grownCap_ge _ _ _ _)
        simpa using this
      · rename_i b
        split at hA
        · rename_i sz' len hgb
          split at hA
          · rename_i hc2
            obtain ⟨rfl, rfl⟩ := hc2
            simp at hA
            obtain ⟨rfl, rfl⟩ := hA
            obtain ⟨gi, hgi, hle, heq⟩ := hown
            obtain ⟨_, szg, hbg, hgrow⟩ := hg.g b gi hgi
            rw [hgb] at hbg
            simp at hbg
            obtain ⟨rfl, hlen⟩ := hbg
            obtain ⟨rfl, rfl⟩ := heq hlen
            rcases Nat.lt_or_ge gi.cap (els.length + (m0 :: ms).length) with hgr | hroom2
            · refine fresh hgr _ _ b rfl fun arr harr => ?_
              have := Nx.regrow (Nx.drawn hg (w.drawn + 1)).good hgi (by rw [hgb, hlen]) (els.length + (m0 :: ms).length) (grownCap w (els.length + (m0 :: ms).length) gi.cap e) arr e harr (grownCap_ge _ _ _ _) (by simp; omega)
              simpa using this
            · obtain ⟨arr, ty', fr, h1, h2, h3, h4, h5⟩ := hgrow
              have hszle : els.length * sz' + l1.length ≤ arr.size := by
                rw [hll1, h3, ← Nat.add_mul]; exact Nat.mul_le_mul_right _ hroom2
              have hst := run_storeCells_fr (P := P) gi.c (els.length * sz') ty' fr l1 0 arr w h1 h2 (by omega) (isC_all hvl1 (isC_flat hisC))
              simp only [Nat.add_zero] at hst
              have hnx := Nx.growIn hg hgi (by rw [hgb, hlen]) h1 (arr.toList.take (els.length * sz') ++ l1 ++ arr.toList.drop (els.length * sz' + l1.length)).toArray (by simp; omega) (fun o ho => by
                rw [← hlen] at ho
                simp only [List.getElem?_toArray, List.append_assoc]
                rw [List.getElem?_append_left (by simp; omega), List.getElem?_take, if_pos ho]
                simp) (m0 :: ms).length hnpos (by omega)
              refine ⟨.slice (some ⟨gi.c, 0, none⟩) (els.length + (m0 :: ms).length) gi.cap, _, _, ?_, ?_, by rw [hlen]; exact hnx⟩
              · have hf1 := hrunl1 w (fun _ _ _ => rfl)
                exact run_append_in hu hi gi.c els.length gi.cap (m0 :: ms).length a1 cap1 l1 _ (by rw [hsz]; exact hf1) (by rw [hsz]; exact hst) hroom2
              · have huy' : Uni sz' ((m0 :: ms).map fg2) := by
                  intro x hx
                  rw [List.mem_map] at hx
                  obtain ⟨y, hy, rfl⟩ := hx
                  rw [cells_fg2_length]; exact huy y hy
                refine ⟨hux.append huy', some ⟨gi.c, 0, none⟩, gi.cap, by simp, by simpa using hroom2, ⟨⟨gi.c, gi.cap, gi.len + (m0 :: ms).length⟩, by simp [Gh.grown], by simp; omega, fun _ => ⟨rfl, rfl⟩⟩, fun _ => ⟨gi.c, 0, rfl, ?_⟩⟩
                have hff : List.flatMap cellsOf (fg2 m0 :: List.map fg2 ms) = ((m0 :: ms).flatMap cellsOf).map fg1 := flat_fg2 (m0 :: ms)
                rw [RowR.iff, List.flatMap_append, hff]
                have hold : arr.toList.take (els.length * sz') = l := by
                  apply List.ext_getElem?
                  intro j
                  rw [List.getElem?_take]
                  split
                  · rename_i hj
                    have hne : els ≠ [] := by rintro rfl; simp at hj
                    obtain ⟨c, o, he, hcell⟩ := hcl hne
                    simp at he
                    obtain ⟨rfl, rfl⟩ := he
                    have hjl : j < l.length := by omega
                    have := (hcell j _ (List.getElem?_eq_getElem hjl)).1
                    simp only [World.cell?, h1] at this
                    simp at this
                    rw [Array.getElem?_toList, this, List.getElem?_eq_getElem hjl]
                  · rename_i hj
                    rw [List.getElem?_eq_none (by omega)]
                refine CelR.new hnx.step (hvl.append (hvl1.map fun a v => VR.fg1)) (rest := arr.toList.drop (els.length * sz' + l1.length)) (setRow_heap w gi.c arr _ ty' fr h1) (by simp [hold]) fun o ho => ?_
                right
                refine ⟨rfl, ?_⟩
                rw [List.length_append, List.length_map, flat_length hux, flat_length huy, ← Nat.add_mul] at ho
                rw [← hlen]; exact ho
          · cases hA
        · cases hA
    · cases hA

end
end Go.Proofs.YtfckkiebffmkfaaGreatDoor.AM
