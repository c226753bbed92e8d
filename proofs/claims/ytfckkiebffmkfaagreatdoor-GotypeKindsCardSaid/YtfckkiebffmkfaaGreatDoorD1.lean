/- From the row's premises to the interpreter's start, and from its answer to the row's end. -/
import Derived.Test.YtfckkiebffmkfaaGreatDoorB12
import Derived.Test.YtfckkiebffmkfaaGreatDoorCards
import Derived.Test.YtfckkiebffmkfaaGreatDoorTie
import Derived.WalkKit
import Derived.ProofKit
import Derived.OpenShut
import Derived.Deep.DeepHandedRow
import Derived.Lib.LaidTab
import Derived.Stop.LaidErr
namespace Go.Proofs.YtfckkiebffmkfaaGreatDoor.AM
open Go.ChangeShapes Go.WideShapes Go.ChangeAt Go.RowKit
open Go
set_option maxRecDepth 100000

/-- A table of strings as a row lists it. -/
def strData {H : Type} (ss : List (List UInt8)) : DataW H := .agg (ss.map fun s => .lit (.string s))

theorem cells_of_strs {H : Type} {enc : TypeId × Value → H} {P : Program} {w : World} {base : Nat} {sp : Nat → Bool} {held : Bool} {fuel : Nat} {t e : TypeId} {n : Nat} {cs : List Value} {ss : List (List UInt8)} {p : List MemPlace}
    (ht : P.underlying t = some (.array n e)) (he : P.underlying e = some .string) (hce : P.cellsOf e = 1) (hct : P.cellsOf t = n)
    (h : DataW.trod enc P w base sp held fuel t cs = some (strData ss, p)) : cs = ss.map fun s => Value.string ⟨s.toArray⟩ := by
  cases fuel with
  | zero => simp [DataW.trod] at h
  | succ fuel =>
    simp only [DataW.trod, ht, hce, hct, Nat.mul_one] at h
    split at h
    · rename_i hl
      obtain ⟨xs, hm, hx⟩ := Option.map_eq_some_iff.1 h
      have hxs : xs.map (·.1) = ss.map fun s => (DataW.lit (.string s) : DataW H) := by
        have := congrArg Prod.fst hx
        simpa [strData] using this
      have hxl : xs.length = n := by simpa using Lib.mapM_length hm
      have hzl : ss.length = n := by
        have := congrArg List.length hxs
        simp at this
        omega
      apply List.ext_getElem?
      intro i
      by_cases hi : i < n
      · obtain ⟨b, hb, hf⟩ := Lib.mapM_at hm i i (by simp [hi])
        obtain ⟨s, hc, rfl, _⟩ := DataW.trod_string he hf
        have h1 : cs[i]? = some (.string s) := by
          have := congrArg (·[0]?) hc
          simpa [List.getElem?_take, List.getElem?_drop] using this
        have h2 : (xs.map (·.1))[i]? = some (DataW.lit (.string s.data.toList) : DataW H) := by simp [hb]
        rw [hxs] at h2
        simp only [List.getElem?_map, Option.map_eq_some_iff, DataW.lit.injEq, Lit.string.injEq] at h2
        obtain ⟨s', hs', rfl⟩ := h2
        simp [h1, hs']
      · rw [List.getElem?_eq_none (by omega), List.getElem?_eq_none (by simp; omega)]
    · cases h

theorem strs_of_head {P : Program} {W : World} {name : String} {ss : List (List UInt8)} {rest : List (String × DataW Unit)} {g : Nat} {t e : TypeId} {n : Nat}
    (hg : P.globalNamed name = some g) (hty : (P.globals[g]?).map (·.type) = some t) (ht : P.underlying t = some (.array n e)) (he : P.underlying e = some .string) (hce : P.cellsOf e = 1) (hct : P.cellsOf t = n)
    (h : laidMet P ((name, strData ss) :: rest) W) (i : Nat) (s : List UInt8) (hs : ss[i]? = some s) : W.cell? ⟨g, i, none⟩ = some (.string ⟨s.toArray⟩) := by
  obtain ⟨ps, ⟨g', t', cs, fuel, p, q, hg', ht', hvar, hd, _, _⟩, _⟩ := h
  obtain rfl := Option.some.inj (hg.symm.trans hg')
  obtain rfl := Option.some.inj (hty.symm.trans ht')
  have hcs := cells_of_strs ht he hce hct hd
  have h1 := World.var?_cell hg hvar i
  rw [h1, ← Array.getElem?_toList, hcs]
  simp [hs]

theorem strs_CelR {W : World} {G : Gh} {g : Nat} {ss : List (List UInt8)} (h : ∀ i s, ss[i]? = some s → W.cell? ⟨g, i, none⟩ = some (.string ⟨s.toArray⟩)) (hS : ∀ o, o < ss.length → G.S g o) : CelR W G g 0 (ss.map AV.str) := by
  rw [CelR.iff]
  intro k a ha
  rw [List.getElem?_map, Option.map_eq_some_iff] at ha
  obtain ⟨s, hs, rfl⟩ := ha
  rw [Nat.zero_add]
  exact ⟨_, h k s hs, hS k (List.getElem?_eq_some_iff.1 hs).1, rfl⟩

def strsOf : List AV → List (List UInt8)
  | [] => []
  | .str s :: r => s :: strsOf r
  | _ :: r => strsOf r

theorem gSigns : Tryz.prog.globalNamed "avocet/golex.signs" = some 1 := by kernel_rfl
theorem gSignsType : (Tryz.prog.globals[1]?).map (·.type) = some 253 := by kernel_rfl
theorem gKeys : Tryz.prog.globalNamed "avocet/golex.keys" = some 2 := by kernel_rfl
theorem gKeysType : (Tryz.prog.globals[2]?).map (·.type) = some 267 := by kernel_rfl
theorem cells253 : Tryz.prog.cellsOf 253 = 29 := by kernel_rfl
theorem cells267 : Tryz.prog.cellsOf 267 = 22 := by kernel_rfl
theorem cells9 : Tryz.prog.cellsOf 9 = 1 := by kernel_rfl

def laid2 : List (String × DataW Unit) := [("avocet/golex.signs", Rows.laid_avocet_golex_signs), ("avocet/golex.keys", Rows.laid_avocet_golex_keys)]
theorem laid2_eq : laid2 = [("avocet/golex.signs", strData (strsOf signsA)), ("avocet/golex.keys", strData (strsOf keysA))] := by kernel_rfl
theorem signs_eq : signsA = (strsOf signsA).map AV.str := by kernel_rfl
theorem keys_eq : keysA = (strsOf keysA).map AV.str := by kernel_rfl

/-- The ghost at the start of a row. -/
def Gh.start (W : World) : Gh := { m := fun _ => none, g := fun _ => none, S := fun c _ => c < W.heap.size, B := W.heap.size }

theorem cell_lt {W : World} {c o : Nat} {v : Value} (h : W.cell? ⟨c, o, none⟩ = some v) : c < W.heap.size := by
  rcases Nat.lt_or_ge c W.heap.size with hlt | hge
  · exact hlt
  · exfalso
    unfold World.cell? at h
    rw [Array.getElem?_eq_none hge] at h
    cases h

theorem good_start {W : World} (h : laidMet Tryz.prog laid2 W) : Good TB (Gh.start W) Heap.nil W where
  m b c hb := by cases hb
  inj b b' c hb := by cases hb
  g b i hb := by cases hb
  ginj b b' i i' hb := by cases hb
  mg b c b' i hb := by cases hb
  S c o h := h
  Bsz := Nat.le_refl _
  glob g cs hc := by
    rw [laid2_eq] at h
    have hc' : glB g = some cs := hc
    unfold glB at hc'
    split at hc'
    · rename_i hg
      subst hg
      injection hc' with hc'
      subst hc'
      have hcell := strs_of_head gSigns gSignsType Tryz.underlying253 Tryz.underlying9 cells9 cells253 h
      rw [signs_eq]
      exact strs_CelR hcell (fun o ho => cell_lt (hcell o _ (List.getElem?_eq_getElem ho)))
    · split at hc'
      · rename_i hg
        subst hg
        injection hc' with hc'
        subst hc'
        have hcell := strs_of_head gKeys gKeysType Tryz.underlying267 Tryz.underlying9 cells9 cells267 h.tail
        rw [keys_eq]
        exact strs_CelR hcell (fun o ho => cell_lt (hcell o _ (List.getElem?_eq_getElem ho)))
      · cases hc'

/-- The interpreter's yes is the program's. -/
theorem calls_yes {W : World} (h : laidMet Tryz.prog laid2 W) {n f : Nat} {args : List AV} {vals : List Value} {h' : Heap} (hk : callA TB FB spW n f args Heap.nil = some (.bool true, h')) (hv : VRL W (Gh.start W) args vals) :
    Calls Tryz.prog f vals.toArray W fun e W' => e = .returned (.bool true) ∧ Below W.heap.size W W' := by
  refine Calls.mono (((callB spW_ok n) f args _ _ _ hk).2 W _ vals (good_start h) hv) ?_
  rintro e W' ⟨v, G', rfl, hr, hx⟩
  have hr' : v = .bool true := hr
  subst hr'
  exact ⟨rfl, hx.step.below⟩

section
variable {H : Type} {enc : TypeId × Value → H} {P : Program}
/-- The row's end, where nothing below the heap's old size has turned. -/
theorem post_of_below {f : Func} {s : ChangeSpec} {apart fresh handsOn again : Bool} {W W' : World} {args : Array Value} {v : Value} {ds gs : List (DataW H)} {before pa pv : List MemPlace}
    (hW : DataW.Whole enc P f.params.toList s.vars apart W args.toList ds gs before)
    (hres : ∀ (b : Nat) (sp : Nat → Bool) (hd : Bool), DataW.TrodAll enc P W' b sp hd f.resultTypes.toList (v.resultList f.resultTypes.size) (s.fn H (ds ++ gs)).results [])
    (hargs : ∀ sp : Nat → Bool, (∀ p ∈ before, sp p.block = true) → DataW.TrodAll enc P W' 0 sp true f.params.toList args.toList (s.fn H (ds ++ gs)).args pa)
    (hvars : ∀ sp : Nat → Bool, (∀ p ∈ before, sp p.block = true) → DataW.TrodVars enc P W' sp s.vars (s.fn H (ds ++ gs)).vars pv)
    (hps : before = pa ++ pv) (hb : Below W.heap.size W W')
    (hok : ∀ (j : Nat) (t : TypeId) (r : Value), f.resultTypes[j]? = some t → (v.resultList f.resultTypes.size)[j]? = some r → Value.okWide P W' .any 0 t r) :
    s.post enc P f apart fresh handsOn again W args v W' := by
  have hlt := hW.lt
  have hold : ∀ p ∈ before, (fun b => decide (b < W.heap.size)) p.block = true := fun p hp => by simpa using hW.lt p hp
  refine ⟨ds, gs, before, [], pa, pv, hW, hres _ _ _, hargs _ hold, hvars _ hold, World.keptBut_mono (fun p hp => ⟨hp, ?_⟩) (hb.frame (· ∈ before)), fun _ => ?_⟩
  · rw [hps, List.mem_append] at hp
    exact Or.inr hp
  · obtain ⟨_, _, _, _, _, hz, hn⟩ := hW
    refine ⟨hok, _, _, ([] ++ pa) ++ pv, ⟨[] ++ pa, pv, trodAll_append (hargs _ (fun _ _ => rfl)) (hres _ _ _), hvars _ (fun _ _ => rfl), rfl, ?_, ?_⟩, ?_⟩
    · intro b off hp
      have hp' : MemPlace.cell b off ∈ before := by rw [hps]; simpa using hp
      rw [hb.frozen (hlt _ hp')]
      exact hz b off hp'
    · intro ha
      have := hn ha
      rw [hps] at this
      simpa using this
    · intro p hp _
      rw [hps]
      simpa using hp
end

end Go.Proofs.YtfckkiebffmkfaaGreatDoor.AM
