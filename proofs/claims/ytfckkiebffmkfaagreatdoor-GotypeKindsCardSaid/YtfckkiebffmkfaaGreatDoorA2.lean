/- The abstract machine's tables, out of a program's own. -/
import Derived.Test.YtfckkiebffmkfaaGreatDoorA1
namespace Go.Proofs.YtfckkiebffmkfaaGreatDoor.AM
open Go

def isAggD : TypeDesc → Bool
  | .struct _ => true
  | .array _ _ => true
  | _ => false

def agP (P : Program) (t : Nat) : Option (Bool × Nat) :=
  match P.underlying t, P.info? t with
  | some d, some i => some (isAggD d, i.size)
  | _, _ => none
def foP (P : Program) (s f : Nat) : Option Nat :=
  match P.underlying s with
  | some (.struct fs) => match fs[f]? with
    | some fd => match P.info? fd.type with
      | some i => if i.size = 0 then none else some fd.offset
      | none => none
    | none => none
  | _ => none
def elP (P : Program) (t : Nat) : Option (Nat × Nat × Nat) :=
  match P.underlying t with
  | some (.slice e) => match P.info? e with
    | some i => some (e, i.size, i.bytes)
    | none => none
  | _ => none
def fsG (P : Program) : List Field → Option (List (Nat × Nat))
  | [] => some []
  | f :: fs => match P.info? f.type, fsG P fs with
    | some i, some l => some ((f.offset, i.size) :: l)
    | _, _ => none
def fsP (P : Program) (t : Nat) : Option (List (Nat × Nat)) :=
  match P.underlying t with
  | some (.struct fs) => fsG P fs.toList
  | _ => none
def pfP (P : Program) (t f : Nat) : Option (Bool × Nat × Nat) :=
  match P.underlying t with
  | some (.struct fs) => match fs[f]? with
    | some fd => match agP P fd.type with
      | some (a, n) => some (a, fd.offset, n)
      | none => none
    | none => none
  | _ => none
def arP (P : Program) (t : Nat) : Option (Nat × Bool × Nat) :=
  match P.underlying t with
  | some (.array len e) => match agP P e with
    | some (a, n) => some (len, a, n)
    | none => none
  | _ => none
def ikP (P : Program) (t : Nat) : Option IntKind :=
  match P.underlying t with
  | some (.int k) => some k
  | _ => none
def stP (P : Program) (t : Nat) : Bool :=
  match P.underlying t with
  | some .string => true
  | _ => false
def boP (P : Program) (t : Nat) : Bool :=
  match P.underlying t with
  | some .bool => true
  | _ => false
def bsP (P : Program) (t : Nat) : Bool :=
  match P.underlying t with
  | some (.slice e) => match P.underlying e, P.info? e with
    | some (.int .u8), some i => decide (i.size = 1)
    | _, _ => false
  | _ => false
def mpP (P : Program) (t : Nat) : Option Nat :=
  match P.underlying t with
  | some (.map k e) => match P.underlying k with
    | some .string => some e
    | _ => none
  | _ => none
def zrP (P : Program) (t : Nat) : Option AV :=
  match P.info? t with
  | some i => match i.zero with
    | some z => ofV z
    | none => none
  | none => none

def tabOf (P : Program) (gl : Nat → Option (List AV)) : Tab where
  fo := foP P
  ag := agP P
  el := elP P
  fs := fsP P
  pf := pfP P
  ar := arP P
  ik := ikP P
  st := stP P
  bo := boP P
  bs := bsP P
  mp := mpP P
  zr := zrP P
  gl := gl

end Go.Proofs.YtfckkiebffmkfaaGreatDoor.AM
