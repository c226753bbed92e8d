/- An abstract machine for the translated code: values with slices held by value, an own heap for what is written in place, and an interpreter. Definitions alone. -/
import Derived.Calls
import Derived.LoopN
import Derived.Orders
namespace Go.Proofs.YtfckkiebffmkfaaGreatDoor.AM
open Go

/-- What is known of a by-value slice's room behind its end. -/
inductive Own where
  | any
  | full
  | grow (b : Nat)
  deriving DecidableEq

/-- Abstract values. -/
inductive AV where
  | undef
  | bool (b : Bool)
  | int (k : IntKind) (n : Int)
  | str (s : List UInt8)
  | nilptr
  | ptr (b off : Nat)
  | vptr (sz : Nat) (els : List AV) (i off : Nat)
  | vs (sz : Nat) (els : List AV) (own : Own)
  | hs (sz b off len : Nat)
  | map (r : Option Nat)
  | fn (f : Nat) (first captured : List AV)
  | agg (cs : List AV)
  | tup (vs : List AV)
  deriving Inhabited

/-- Blocks of the abstract heap. -/
inductive ABlk where
  | cells (cs : List AV)
  | map (es : List (List UInt8 × AV))
  | grow (sz len : Nat)
  | dead

/-- The abstract heap: the newest block first. -/
structure Heap where
  n : Nat
  l : List ABlk

def Heap.get (h : Heap) (b : Nat) : Option ABlk := if b < h.n then h.l[h.n - 1 - b]? else none
def Heap.push (h : Heap) (x : ABlk) : Heap := ⟨h.n + 1, x :: h.l⟩
def Heap.set (h : Heap) (b : Nat) (x : ABlk) : Heap := if b < h.n then ⟨h.n, h.l.set (h.n - 1 - b) x⟩ else h
def Heap.nil : Heap := ⟨0, []⟩

theorem Heap.get_push_new (h : Heap) (x : ABlk) : (h.push x).get h.n = some x := by
  simp [Heap.get, Heap.push]
theorem Heap.get_push_old (h : Heap) (x : ABlk) {b : Nat} (hb : b < h.n) : (h.push x).get b = h.get b := by
  have e : h.n - b = (h.n - 1 - b) + 1 := by omega
  simp [Heap.get, Heap.push, hb, e]
  intro hc; omega
theorem Heap.get_lt {h : Heap} {b : Nat} {x : ABlk} (hg : h.get b = some x) : b < h.n := by
  unfold Heap.get at hg; split at hg <;> simp_all
theorem Heap.n_push (h : Heap) (x : ABlk) : (h.push x).n = h.n + 1 := rfl
theorem Heap.n_set (h : Heap) (b : Nat) (x : ABlk) : (h.set b x).n = h.n := by
  unfold Heap.set; split <;> rfl
theorem Heap.get_set_same {h : Heap} {b : Nat} {x y : ABlk} (hg : h.get b = some y) : (h.set b x).get b = some x := by
  have hb := Heap.get_lt hg
  have hl : h.n - 1 - b < h.l.length := by
    simp [Heap.get, hb] at hg
    exact (List.getElem?_eq_some_iff.1 hg).1
  simp [Heap.get, Heap.set, hb, List.getElem?_set_self hl]
theorem Heap.get_set_ne (h : Heap) {b b' : Nat} (x : ABlk) (hne : b ≠ b') : (h.set b x).get b' = h.get b' := by
  unfold Heap.set
  split
  · rename_i hb
    unfold Heap.get
    dsimp only
    split
    · rename_i hb'
      rw [List.getElem?_set_ne]
      omega
    · rfl
  · rfl

def cellsOf : AV → List AV
  | .agg cs => cs
  | v => [v]

/-- What may be stored in one cell. -/
def isC : AV → Bool
  | .undef => false
  | .agg _ => false
  | .tup _ => false
  | _ => true

/-- What is in another value, or goes through a call, is not appended to in place. -/
def fg1 : AV → AV
  | .vs sz els _ => .vs sz els .any
  | v => v
def fg2 : AV → AV
  | .agg cs => .agg (cs.map fg1)
  | v => fg1 v
def fg3 : AV → AV
  | .tup vs => .tup (vs.map fg2)
  | v => fg2 v

/-- A constant as an abstract value: cells. -/
def ofC : Value → Option AV
  | .bool b => some (.bool b)
  | .int k n => some (.int k n)
  | .string s => some (.str s.data.toList)
  | .pointer none => some .nilptr
  | .slice none 0 0 => some (.vs 0 [] .full)
  | .map none => some (.map none)
  | _ => none
def ofCs : List Value → Option (List AV)
  | [] => some []
  | v :: vs => match ofC v, ofCs vs with
    | some a, some as => some (a :: as)
    | _, _ => none
def ofV : Value → Option AV
  | .agg cs => (ofCs cs.toList).map .agg
  | v => ofC v

/-- What the interpreter is told of the program's types. -/
structure Tab where
  fo : Nat → Nat → Option Nat
  ag : Nat → Option (Bool × Nat)
  el : Nat → Option (Nat × Nat × Nat)
  fs : Nat → Option (List (Nat × Nat))
  pf : Nat → Nat → Option (Bool × Nat × Nat)
  ar : Nat → Option (Nat × Bool × Nat)
  ik : Nat → Option IntKind
  st : Nat → Bool
  bo : Nat → Bool
  bs : Nat → Bool
  mp : Nat → Option Nat
  zr : Nat → Option AV
  gl : Nat → Option (List AV)

/-- Some cells as a value of a type. -/
def packA (ag : Bool) (n : Nat) (cs : List AV) (off : Nat) : Option AV :=
  if ag then (if off + n ≤ cs.length then some (.agg ((cs.drop off).take n)) else none) else cs[off]?

def setCells (cs : List AV) (off : Nat) : List AV → List AV
  | [] => cs
  | v :: vs => setCells (cs.set off v) (off + 1) vs

/-- The order of integers, in a form that can be worked out where a part is unknown. -/
def leI : Int → Int → Bool
  | .ofNat a, .ofNat b => Nat.ble a b
  | .negSucc _, .ofNat _ => true
  | .ofNat _, .negSucc _ => false
  | .negSucc a, .negSucc b => Nat.ble b a
theorem leI_eq (a b : Int) : leI a b = decide (a ≤ b) := by
  rcases a with a | a <;> rcases b with b | b <;> simp only [leI]
  · rw [Bool.eq_iff_iff]; simp
  · symm; rw [decide_eq_false_iff_not, Int.ofNat_eq_natCast]; omega
  · symm; rw [decide_eq_true_eq, Int.ofNat_eq_natCast]; omega
  · rw [Bool.eq_iff_iff, Nat.ble_eq, decide_eq_true_eq]; omega
theorem not_leI (a b : Int) : (!leI b a) = decide (a < b) := by
  rw [leI_eq, ← decide_not]; simp

def binI (op : BinOp) (k : IntKind) (x y : Int) : Option AV :=
  match op with
  | .add => some (.int k (k.wrap (x + y)))
  | .sub => some (.int k (k.wrap (x - y)))
  | .mul => some (.int k (k.wrap (x * y)))
  | .quo => if y = 0 then none else some (.int k (k.wrap (x.tdiv y)))
  | .rem => if y = 0 then none else some (.int k (x.tmod y))
  | .and => some (.int k (k.wrap (BitVec.ofInt k.bits x &&& BitVec.ofInt k.bits y).toNat))
  | .or => some (.int k (k.wrap (BitVec.ofInt k.bits x ||| BitVec.ofInt k.bits y).toNat))
  | .xor => some (.int k (k.wrap (BitVec.ofInt k.bits x ^^^ BitVec.ofInt k.bits y).toNat))
  | .eql => some (.bool (x == y))
  | .neq => some (.bool (x != y))
  | .lss => some (.bool !leI y x)
  | .leq => some (.bool (leI x y))
  | .gtr => some (.bool !leI x y)
  | .geq => some (.bool (leI y x))
  | _ => none

def binA (T : Tab) (ty : Nat) (op : BinOp) (x y : AV) : Option AV :=
  match x, y with
  | .int k a, .int k' b =>
    match op with
    | .shl => if b < 0 then none else some (.int k (k.wrap (a * 2 ^ min b.toNat k.bits)))
    | .shr => if b < 0 then none else some (.int k (a.fdiv (2 ^ min b.toNat k.bits)))
    | op => if k = k' then binI op k a b else none
  | .str a, .str b =>
    match op with
    | .add => if a.length + b.length ≤ 9223372036854775807 then some (.str (a ++ b)) else none
    | .eql => some (.bool (a == b))
    | .neq => some (.bool !(a == b))
    | .lss => some (.bool (Op.bytesLess a b))
    | _ => none
  | .bool a, .bool b =>
    match op, T.bo ty with
    | .eql, true => some (.bool (a == b))
    | .neq, true => some (.bool !(a == b))
    | _, _ => none
  | _, _ => none

def unA (op : UnOp) (x : AV) : Option AV :=
  match op, x with
  | .not, .bool b => some (.bool !b)
  | .neg, .int k n => some (.int k (k.wrap (0 - n)))
  | _, _ => none

/-- Bytes as a slice's elements, and back. -/
def bytesA (s : List UInt8) : List AV := s.map fun b => .int .u8 (b.toNat : Int)
def unbytes : List AV → Option (List UInt8)
  | [] => some []
  | .int .u8 n :: es => (unbytes es).map (UInt8.ofNat n.toNat :: ·)
  | _ :: _ => none

def zerosA (len : Nat) (z : AV) : List AV := List.replicate len z

def fillA (sz : Nat) (ev : Operand → Option AV) : List AV → List (Nat × Operand) → Option (List AV)
  | els, [] => some els
  | els, (i, x) :: rest =>
    match ev x with
    | some v => if (cellsOf v).length = sz ∧ i < els.length then fillA sz ev (els.set i (fg2 v)) rest else none
    | none => none

def buildA (fs : List (Nat × Nat)) (ev : Operand → Option AV) : List AV → List (Nat × Operand) → Option (List AV)
  | cs, [] => some cs
  | cs, (i, x) :: rest =>
    match fs[i]?, ev x with
    | some (off, size), some v => if (cellsOf v).length = size ∧ off + size ≤ cs.length then buildA fs ev (setCells cs off (cellsOf v)) rest else none
    | _, _ => none

def mget (k : List UInt8) : List (List UInt8 × AV) → Option AV
  | [] => none
  | (k', v) :: es => if k == k' then some v else mget k es
def mput (k : List UInt8) (v : AV) : List (List UInt8 × AV) → List (List UInt8 × AV)
  | [] => [(k, v)]
  | (k', v') :: es => if k == k' then (k, v) :: es else (k', v') :: mput k v es
def mdel (k : List UInt8) : List (List UInt8 × AV) → List (List UInt8 × AV)
  | [] => []
  | (k', v') :: es => if k == k' then es else (k', v') :: mdel k es

/-- 2^47 bytes: what an append may come to. -/
def roomMax : Nat := 140737488355328

def appendA (sz bytes : Nat) (h : Heap) (els : List AV) (own : Own) (more : List AV) : Option (AV × Heap) :=
  match more with
  | [] => some (.vs sz els own, h)
  | _ :: _ =>
    if (els.length + more.length) * bytes ≤ roomMax ∧ 0 < bytes ∧ 0 < sz ∧ (more.all fun e => (cellsOf e).all isC) = true then
      match own with
      | .any => none
      | .full => some (.vs sz (els ++ more.map fg2) (.grow h.n), h.push (.grow sz (els.length + more.length)))
      | .grow b =>
        match h.get b with
        | some (.grow sz' len) => if sz' = sz ∧ len = els.length then some (.vs sz (els ++ more.map fg2) (.grow b), h.set b (.grow sz (els.length + more.length))) else none
        | _ => none
    else none

def boundA (x : Option AV) (top : Nat) (dflt : Nat) : Option Nat :=
  match x with
  | none => some dflt
  | some (.int _ i) => if 0 ≤ i ∧ i ≤ (top : Int) then some i.toNat else none
  | _ => none

def sliceA (T : Tab) (t : Nat) (x : AV) (lo hi mx : Option AV) : Option AV :=
  match x with
  | .str s =>
    match mx, T.st t with
    | some _, _ => none
    | none, false => none
    | none, true => match boundA hi s.length s.length with
      | some e => match boundA lo e 0 with
        | some b => some (.str ((s.take e).drop b))
        | none => none
      | none => none
  | .vs sz els _ =>
    match mx, T.el t with
    | none, some (_, sz', _) =>
      if sz' = sz then
        match boundA hi els.length els.length with
        | some e => match boundA lo e 0 with
          | some b => some (.vs sz ((els.take e).drop b) .any)
          | none => none
        | none => none
      else none
    | _, _ => none
  | _ => none

/-- A load. -/
def loadA (T : Tab) (h : Heap) (t : Nat) (a : AV) : Option AV :=
  match T.ag t with
  | none => none
  | some (ag, n) =>
    match a with
    | .ptr b off => match h.get b with
      | some (.cells cs) => packA ag n cs off
      | _ => none
    | .vptr _ els i off => match els[i]? with
      | some e => packA ag n (cellsOf e) off
      | none => none
    | _ => none

def storeA (T : Tab) (h : Heap) (t : Nat) (a v : AV) : Option Heap :=
  match T.ag t, a with
  | some (_, n), .ptr b off => match h.get b with
    | some (.cells cs) => if (cellsOf v).length = n ∧ off + n ≤ cs.length ∧ (cellsOf v).all isC = true then some (h.set b (.cells (setCells cs off (cellsOf v)))) else none
    | _ => none
  | _, _ => none

def convA (T : Tab) (src dst : Nat) (v : AV) : Option AV :=
  match v with
  | .int _ n => match T.ik dst, T.ik src with
    | some k, some _ => some (.int k (k.wrap n))
    | _, _ => none
  | .str s => if T.bs dst = true ∧ T.st src = true then some (.vs 1 (bytesA s) .any) else none
  | .vs sz els own =>
    if src = dst then
      (match own, els with
      | .full, e :: es => if T.bs dst = true ∧ sz = 1 then some (.vs sz (e :: es) .full) else none
      | _, _ => none)
    else if T.bs src = true ∧ T.st dst = true ∧ sz = 1 then (unbytes els).map .str else none
  | _ => none

def fieldA (T : Tab) (s : Nat) (x : AV) (f : Nat) : Option AV :=
  match T.fo s f, x with
  | some o, .ptr b off => some (.ptr b (off + o))
  | some o, .vptr sz els i off => some (.vptr sz els i (off + o))
  | _, _ => none

def indexAddrA (T : Tab) (t : Nat) (x i : AV) : Option AV :=
  match x, i, T.el t with
  | .vs sz els _, .int _ i, some (_, sz', _) => if sz' = sz ∧ 0 ≤ i ∧ i < (els.length : Int) then some (.vptr sz els i.toNat 0) else none
  | .hs sz b off len, .int _ i, some (_, sz', _) => if sz' = sz ∧ 0 ≤ i ∧ i < (len : Int) then some (.ptr b (off + i.toNat * sz)) else none
  | _, _, _ => none

def indexA (T : Tab) (t : Nat) (x i : AV) : Option AV :=
  match x, i with
  | .str s, .int _ i => if 0 ≤ i ∧ T.st t = true then (match s[i.toNat]? with | some b => some (.int .u8 (b.toNat : Int)) | none => none) else none
  | .agg cs, .int _ i => match T.ar t with
    | some (len, ag, sz) => if 0 ≤ i ∧ i < (len : Int) then packA ag sz cs (i.toNat * sz) else none
    | none => none
  | _, _ => none

def lenA (x : AV) : Option AV :=
  match x with
  | .vs _ els _ => some (.int .i64 (els.length : Int))
  | .hs _ _ _ len => some (.int .i64 (len : Int))
  | .str s => some (.int .i64 (s.length : Int))
  | _ => none

def lookupA (T : Tab) (h : Heap) (t : Nat) (x k : AV) (ok : Bool) : Option AV :=
  match k with
  | .str k => match T.mp t with
    | none => none
    | some et =>
      let r : Option (Option AV) := match x with
        | .map none => some none
        | .map (some r) => match h.get r with
          | some (.map es) => some (mget k es)
          | _ => none
        | _ => none
      match r with
      | none => none
      | some (some v) => some (if ok then .tup [v, .bool true] else v)
      | some none => match T.zr et with
        | some z => some (if ok then .tup [z, .bool false] else z)
        | none => none
  | _ => none

def mupdA (T : Tab) (h : Heap) (t : Nat) (x k v : AV) : Option Heap :=
  match x, k, T.mp t with
  | .map (some r), .str k, some _ => match h.get r with
    | some (.map es) => some (h.set r (.map (mput k v es)))
    | _ => none
  | _, _, _ => none

def mdelA (T : Tab) (h : Heap) (t : Nat) (x k : AV) : Option Heap :=
  match x, k, T.mp t with
  | .map (some r), .str k, some _ => match h.get r with
    | some (.map es) => some (h.set r (.map (mdel k es)))
    | _ => none
  | _, _, _ => none

def evL (ev : Operand → Option AV) : List Operand → Option (List AV)
  | [] => some []
  | x :: xs => match ev x, evL ev xs with
    | some v, some vs => some (v :: vs)
    | _, _ => none

def evO (ev : Operand → Option AV) : Option Operand → Option (Option AV)
  | none => some none
  | some x => (ev x).map some

def builtinA (T : Tab) (b : Builtin) (ts : List Nat) (args : List AV) (h : Heap) : Option (AV × Heap) :=
  match b, args with
  | .len, [x] => match x, ts[0]? with
    | .vs .., some t | .hs .., some t => if (T.el t).isSome then (lenA x).map (·, h) else none
    | .str _, some t => if T.st t = true then (lenA x).map (·, h) else none
    | _, _ => none
  | .append, [.vs sz0 els own, .vs sz1 more _] => match ts[0]?, ts[1]? with
    | some t, some u => match T.el t with
      | some (e, sz, bytes) => match T.zr e with
        | some z =>
          if t = u ∧ (cellsOf z).length = sz ∧ (sz0 = sz ∨ els.isEmpty = true) ∧ (sz1 = sz ∨ more.isEmpty = true) then appendA sz bytes h els own more else none
        | none => none
      | none => none
    | _, _ => none
  | .min, [.int k x, .int k' y] => if k = k' then some (.int k (if y < x then y else x), h) else none
  | .delete, [m, k] => match ts[0]? with
    | some t => (mdelA T h t m k).map (.tup [], ·)
    | none => none
  | _, _ => none

/-- An abstract frame's temporaries, and the value of an operand. -/
def evA (T : Tab) (tm : List AV) : Operand → Option AV
  | .tmp t => tm[t]?
  | .const v => ofV v
  | .global g => (T.gl g).map fun cs => .vptr cs.length [.agg cs] 0 0
  | .func f => some (.fn f [] [])

def putA (dst : Option Tmp) (v : AV) (tm : List AV) : List AV :=
  match dst with
  | some d => tm.set d v
  | none => tm

abbrev KA := Nat → List AV → Heap → Option (AV × Heap)

/-- One operation: what it answers, and the heap behind it. -/
def opA (T : Tab) (K : KA) (ev : Operand → Option AV) (o : Oper) (h : Heap) : Option (AV × Heap) :=
  match o.op with
  | .move x | .assign x => (ev x).map (·, h)
  | .pick c a b => match ev c with
    | some (.bool t) => (if t then ev a else ev b).map (·, h)
    | _ => none
  | .alloc t => match T.zr t, T.ag t with
    | some z, some _ => some (.ptr h.n 0, h.push (.cells (cellsOf z)))
    | _, _ => none
  | .box _ x => (ev x).map fun v => (.ptr h.n 0, h.push (.cells (cellsOf v)))
  | .build t ps => match T.fs t, T.zr t with
    | some fs, some (.agg z) => (buildA fs ev z ps.toList).map (.agg ·, h)
    | _, _ => none
  | .buildSlice t len ps => match T.el t with
    | some (e, sz, _) => if len = 0 then (if ps.toList.isEmpty then some (.vs sz [] .full, h) else none) else
      match T.zr e with
      | some z => if (cellsOf z).length = sz ∧ 0 < sz ∧ len * sz ≤ 16777216 then (fillA sz ev (zerosA len z) ps.toList).map (.vs sz · .full, h) else none
      | none => none
    | none => none
  | .load t a => match ev a with
    | some a => (loadA T h t a).map (·, h)
    | none => none
  | .store t a x => match ev a, ev x with
    | some a, some v => (storeA T h t a v).map (.undef, ·)
    | _, _ => none
  | .nilCheck x => match ev x with
    | some (.ptr b o) => some (.ptr b o, h)
    | some (.vptr s e i o) => some (.vptr s e i o, h)
    | some (.fn f a b) => some (.fn f a b, h)
    | _ => none
  | .binOp op ty x y _ => match ev x, ev y with
    | some x, some y => (binA T ty op x y).map (·, h)
    | _, _ => none
  | .unOp op _ x => match ev x with
    | some x => (unA op x).map (·, h)
    | none => none
  | .convert src dst x => match ev x with
    | some v => (convA T src dst v).map (·, h)
    | none => none
  | .makeFunc (.func f) first captured => match evL ev first.toList, evL ev captured.toList with
    | some a, some b => some (.fn f a b, h)
    | _, _ => none
  | .makeMap t none => match T.mp t with
    | some _ => some (.map (some h.n), h.push (.map []))
    | none => none
  | .slice t x lo hi mx => match ev x, evO ev lo, evO ev hi, evO ev mx with
    | some x, some lo, some hi, some mx => (sliceA T t x lo hi mx).map (·, h)
    | _, _, _, _ => none
  | .fieldAddr s x f => match ev x with
    | some x => (fieldA T s x f).map (·, h)
    | none => none
  | .field t x f => match T.pf t f, ev x with
    | some (ag, off, sz), some (.agg cs) => (packA ag sz cs off).map (·, h)
    | _, _ => none
  | .indexAddr t x i => match ev x, ev i with
    | some x, some i => (indexAddrA T t x i).map (·, h)
    | _, _ => none
  | .index t x i => match ev x, ev i with
    | some x, some i => (indexA T t x i).map (·, h)
    | _, _ => none
  | .lookup t x i ok => match ev x, ev i with
    | some x, some i => (lookupA T h t x i ok).map (·, h)
    | _, _ => none
  | .mapUpdate t m k x => match ev m, ev k, ev x with
    | some m, some k, some x => (mupdA T h t m k x).map (.undef, ·)
    | _, _, _ => none
  | .extract t i => match ev t with
    | some (.tup vs) => (vs[i]?).map (·, h)
    | _ => none
  | .call c => match c.callee, evL ev c.args.toList with
    | .builtin b, some args => builtinA T b c.argTypes.toList args h
    | .value f, some args => match ev f with
      | some (.fn f first captured) => (K f ((first ++ args ++ captured).map fg2) h).map fun r => (fg3 r.1, r.2)
      | _ => none
    | _, _ => none
  | _ => none

/-- Is an operation carried out? By its guard. -/
def wantA (ops : List Oper) (tm : List AV) (o : Oper) : Option Bool :=
  match o.guard with
  | none => some true
  | some (j, want) => match ops[j]? with
    | some oj => match oj.dst with
      | some d => match tm[d]? with
        | some (.bool b) => some (b == want)
        | some .undef => some false
        | _ => none
      | none => none
    | none => none

def stepA (T : Tab) (K : KA) (ops : List Oper) (tm : List AV) (h : Heap) (o : Oper) : Option (List AV × Heap) :=
  match wantA ops tm o with
  | some true => match opA T K (evA T tm) o h with
    | some (v, h') => some (putA o.dst v tm, h')
    | none => none
  | some false => some (putA o.dst .undef tm, h)
  | none => none

def opsA (T : Tab) (K : KA) (ops : List Oper) : List Oper → List AV → Heap → Option (List AV × Heap)
  | [], tm, h => some (tm, h)
  | o :: rest, tm, h => match stepA T K ops tm h o with
    | some (tm', h') => opsA T K ops rest tm' h'
    | none => none

/-- What an operation has to do with the heap. -/
inductive Kd where
  | pure
  | read
  | eff
  | alloc
  deriving DecidableEq

def kdOf : Op → Kd
  | .alloc _ => .alloc
  | .load .. | .lookup .. => .read
  | .box .. | .makeMap .. | .makeSlice .. | .store .. | .mapUpdate .. => .eff
  | .call c => match c.callee with
    | .builtin .len | .builtin .min => .pure
    | _ => .eff
  | _ => .pure

def bindsA (e : Edge) : Bool := Region.binds .any e

/-- Which operations stand ahead of each, as bits. -/
def masksGo : List Oper → List Nat → List Nat
  | [], acc => acc
  | o :: rest, acc => masksGo rest (acc ++ [o.after.toList.foldl (fun s e => if bindsA e then s ||| 2 ^ e.on ||| acc.getD e.on 0 else s) 0])
def masks (ops : List Oper) : List Nat := masksGo ops []

def tmpsOf (ops : List Oper) (o : Oper) : List Nat :=
  (o.op.operands.toList.filterMap fun x => match x with | .tmp t => some t | _ => none) ++
  (match o.guard with
  | some (j, _) => match ops[j]? with
    | some oj => oj.dst.toList
    | none => []
  | none => [])

/-- What a region that draws its order owes: a look at its text alone. -/
def drawOk (ops : List Oper) : Bool :=
  let ms := masks ops
  let ix := ops.zipIdx
  ix.all fun (o, i) =>
    (o.after.toList.all fun e => !bindsA e || decide (e.on < i)) &&
    (match o.guard with
    | some (j, _) => (ms.getD i 0).testBit j && ((ops[j]?).bind (·.dst)).isSome && decide (kdOf o.op ≠ .alloc)
    | none => true) &&
    (decide (kdOf o.op ≠ .alloc) || o.dst.isSome) &&
    (ix.all fun (p, j) =>
      decide (j ≤ i) || (!(o.dst.isSome && decide (o.dst = p.dst)) && (decide (kdOf o.op ≠ .eff) || decide (kdOf p.op ≠ .eff) || (ms.getD j 0).testBit i))) &&
    (ix.all fun (p, j) => match p.dst with
      | none => true
      | some d => decide (j = i) || !((tmpsOf ops o).contains d) || (if j < i then (ms.getD i 0).testBit j else (ms.getD j 0).testBit i))

/-- What one operation of a region came to. -/
structure Rec where
  o : Oper
  want : Bool
  r : AV
  tm : List AV
  hp : Heap
  hq : Heap

def preAlloc (T : Tab) : List Oper → Heap → Option Heap
  | [], h => some h
  | o :: rest, h => match o.op with
    | .alloc t => match T.zr t, T.ag t with
      | some z, some _ => preAlloc T rest (h.push (.cells (cellsOf z)))
      | _, _ => none
    | _ => preAlloc T rest h

def opD (T : Tab) (K : KA) (na : Nat) (ev : Operand → Option AV) (o : Oper) (h : Heap) : Option (AV × Heap) :=
  match kdOf o.op with
  | .alloc => some (.ptr na 0, h)
  | _ => opA T K ev o h

def nextA (na : Nat) (o : Oper) : Nat := match kdOf o.op with
  | .alloc => na + 1
  | _ => na

def runD (T : Tab) (K : KA) (ops : List Oper) : Nat → List Oper → List AV → Heap → Option (List Rec)
  | _, [], _, _ => some []
  | na, o :: rest, tm, h => match wantA ops tm o with
    | some true => match opD T K na (evA T tm) o h with
      | some (v, h') => (runD T K ops (nextA na o) rest (putA o.dst v tm) h').map (⟨o, true, v, tm, h, h'⟩ :: ·)
      | none => none
    | some false => (runD T K ops (nextA na o) rest (putA o.dst .undef tm) h).map (⟨o, false, .undef, tm, h, h⟩ :: ·)
    | none => none

def finT : List Rec → List AV → List AV
  | [], tm => tm
  | x :: xs, tm => finT xs (putA x.o.dst x.r tm)
def finH : List Rec → Heap → Heap
  | [], h => h
  | x :: xs, _ => finH xs x.hq

mutual
def AV.beq : AV → AV → Bool
  | .undef, .undef => true
  | .bool a, .bool b => a == b
  | .int k a, .int j b => decide (k = j) && decide (a = b)
  | .str a, .str b => decide (a = b)
  | .nilptr, .nilptr => true
  | .ptr a b, .ptr c d => decide (a = c) && decide (b = d)
  | .vptr s es i f, .vptr s' es' i' f' => decide (s = s') && decide (i = i') && decide (f = f') && AV.beqL es es'
  | .vs s es o, .vs s' es' o' => decide (s = s') && decide (o = o') && AV.beqL es es'
  | .hs s b f n, .hs s' b' f' n' => decide (s = s') && decide (b = b') && decide (f = f') && decide (n = n')
  | .map a, .map b => decide (a = b)
  | .fn f a b, .fn f' a' b' => decide (f = f') && AV.beqL a a' && AV.beqL b b'
  | .agg a, .agg b => AV.beqL a b
  | .tup a, .tup b => AV.beqL a b
  | _, _ => false
def AV.beqL : List AV → List AV → Bool
  | [], [] => true
  | a :: as, b :: bs => AV.beq a b && AV.beqL as bs
  | _, _ => false
end

/-- The heaps that an operation of the region may meet, whatever the order: those behind these of the operations that change it. -/
def effsOf : Nat → List Rec → List (Nat × Heap)
  | _, [] => []
  | i, x :: xs => if kdOf x.o.op = .eff then (i, x.hq) :: effsOf (i + 1) xs else effsOf (i + 1) xs

def feas (ms : List Nat) (es : List (Nat × Heap)) (i p : Nat) : Bool :=
  es.all fun c => (!((ms.getD i 0).testBit c.1) || decide (c.1 < p)) && (!((ms.getD c.1 0).testBit i) || decide (p ≤ c.1))

def sameRead (T : Tab) (K : KA) (x : Rec) (h : Heap) : Bool :=
  match opA T K (evA T x.tm) x.o h with
  | some (v, _) => AV.beq v x.r
  | none => false

def checkD (T : Tab) (K : KA) (ms : List Nat) (es : List (Nat × Heap)) (h0 : Heap) : Nat → List Rec → Bool
  | _, [] => true
  | i, x :: xs =>
    (if kdOf x.o.op = .read ∧ x.want = true then
      (!(feas ms es i 0) || sameRead T K x h0) && es.all fun c => !(feas ms es i (c.1 + 1)) || sameRead T K x c.2
    else true) && checkD T K ms es h0 (i + 1) xs

def drawA (T : Tab) (K : KA) (ops : List Oper) (tm : List AV) (h : Heap) : Option (List AV × Heap) :=
  match preAlloc T ops h with
  | some h0 => match runD T K ops h.n ops tm h0 with
    | some rs => if checkD T K (masks ops) (effsOf 0 rs) h0 0 rs then some (finT rs tm, finH rs h0) else none
    | none => none
  | none => none

inductive Ex where
  | normal
  | exit (id : Nat)
  | ret
  deriving DecidableEq

abbrev Out := Option (Ex × List AV × Heap)

def iter : Nat → (List AV → Heap → Out) → List AV → Heap → Out
  | 0, _, _, _ => none
  | n + 1, f, tm, h => match f tm h with
    | some (.normal, tm', h') => iter n f tm' h'
    | r => r

def exec (T : Tab) (K : KA) (L : Nat) : Code → List AV → Heap → Out
  | .skip, tm, h => some (.normal, tm, h)
  | .region _ ops draw, tm, h =>
    match (if draw then drawA T K ops.toList tm h else opsA T K ops.toList ops.toList tm h) with
    | some (tm', h') => some (.normal, tm', h')
    | none => none
  | .seq a b, tm, h => match exec T K L a tm h with
    | some (.normal, tm', h') => exec T K L b tm' h'
    | r => r
  | .cond c a b, tm, h => match evA T tm c with
    | some (.bool t) => if t then exec T K L a tm h else exec T K L b tm h
    | _ => none
  | .block id c, tm, h => match exec T K L c tm h with
    | some (.exit i, tm', h') => if i = id then some (.normal, tm', h') else some (.exit i, tm', h')
    | r => r
  | .loop c, tm, h => iter L (exec T K L c) tm h
  | .exit id, tm, h => some (.exit id, tm, h)
  | .ret, tm, h => some (.ret, tm, h)
  | _, _, _ => none

def res1 (T : Tab) (tm : List AV) (h : Heap) : ResultVar → Option AV
  | .tmp t => tm[t]?
  | .cell a t => match tm[a]? with
    | some (.ptr b o) => loadA T h t (.ptr b o)
    | _ => none
def resL (T : Tab) (tm : List AV) (h : Heap) : List ResultVar → Option (List AV)
  | [] => some []
  | r :: rs => match res1 T tm h r, resL T tm h rs with
    | some v, some vs => some (v :: vs)
    | _, _ => none
def resA (T : Tab) (tm : List AV) (h : Heap) (rs : List ResultVar) : Option AV :=
  match resL T tm h rs with
  | some [v] => some v
  | some vs => some (.tup vs)
  | none => none

abbrev SpA := Nat → Option (List AV → Heap → Option (AV × Heap))

def bodyA (T : Tab) (K : KA) (L : Nat) (fn : Func) (args : List AV) (h : Heap) : Option (AV × Heap) :=
  match fn.body with
  | none => none
  | some c => match exec T K L c (args ++ List.replicate (fn.ntmps - args.length) .undef) h with
    | some (.normal, tm, h') => (resA T tm h' fn.results.toList).map (·, h')
    | some (.ret, tm, h') => (resA T tm h' fn.results.toList).map (·, h')
    | _ => none

def callA (T : Tab) (F : Nat → Option Func) (sp : SpA) : Nat → KA
  | 0 => fun _ _ _ => none
  | n + 1 => fun f args h => match sp f with
    | some g => g args h
    | none => match F f with
      | some fn => bodyA T (callA T F sp n) n fn args h
      | none => none

end Go.Proofs.YtfckkiebffmkfaaGreatDoor.AM
