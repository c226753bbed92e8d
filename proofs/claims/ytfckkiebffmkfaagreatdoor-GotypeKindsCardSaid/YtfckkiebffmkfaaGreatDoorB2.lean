/- What Take answers on the two texts: PRINTED BY A PROGRAM (wip/b2.py). -/
import Derived.Test.YtfckkiebffmkfaaGreatDoorB1
import Derived.Test.YtfckkiebffmkfaaGreatDoorA20
import Derived.KernelRfl
namespace Go.Proofs.YtfckkiebffmkfaaGreatDoor.AM
open Go
set_option maxRecDepth 100000

def bv (l : List Nat) (o : Own) : AV := .vs 1 (l.map fun (n : Nat) => .int .u8 (n : Int)) o
def text1 : AV := bv [112, 97, 99, 107, 97, 103, 101, 32, 112, 32, 102, 117, 110, 99, 32, 102, 40, 97, 32, 105, 110, 116, 41, 32, 40, 105, 110, 116, 41, 32, 123, 32, 114, 101, 116, 117, 114, 110, 32, 97, 32, 43, 32, 49, 32, 125] .any
def takes1 : List (Nat × List AV × AV) := [
  (188, [text1, .int .i64 0], (.tup [(.agg [(.int .i64 4), (wd [112, 97, 99, 107, 97, 103, 101]), (.int .u64 0), (.int .i64 0), (.int .i64 7)]), (.int .i64 0)])),
  (188, [text1, .int .i64 7], (.tup [(.agg [(.int .i64 1), (wd [112]), (.int .u64 0), (.int .i64 8), (.int .i64 9)]), (.int .i64 0)])),
  (188, [text1, .int .i64 9], (.tup [(.agg [(.int .i64 4), (wd [102, 117, 110, 99]), (.int .u64 0), (.int .i64 10), (.int .i64 14)]), (.int .i64 0)])),
  (188, [text1, .int .i64 14], (.tup [(.agg [(.int .i64 1), (wd [102]), (.int .u64 0), (.int .i64 15), (.int .i64 16)]), (.int .i64 0)])),
  (188, [text1, .int .i64 16], (.tup [(.agg [(.int .i64 3), (wd [40]), (.int .u64 0), (.int .i64 16), (.int .i64 17)]), (.int .i64 0)])),
  (188, [text1, .int .i64 17], (.tup [(.agg [(.int .i64 1), (wd [97]), (.int .u64 0), (.int .i64 17), (.int .i64 18)]), (.int .i64 0)])),
  (188, [text1, .int .i64 18], (.tup [(.agg [(.int .i64 4), (wd [105, 110, 116]), (.int .u64 0), (.int .i64 19), (.int .i64 22)]), (.int .i64 0)])),
  (188, [text1, .int .i64 22], (.tup [(.agg [(.int .i64 3), (wd [41]), (.int .u64 0), (.int .i64 22), (.int .i64 23)]), (.int .i64 0)])),
  (188, [text1, .int .i64 23], (.tup [(.agg [(.int .i64 3), (wd [40]), (.int .u64 0), (.int .i64 24), (.int .i64 25)]), (.int .i64 0)])),
  (188, [text1, .int .i64 25], (.tup [(.agg [(.int .i64 4), (wd [105, 110, 116]), (.int .u64 0), (.int .i64 25), (.int .i64 28)]), (.int .i64 0)])),
  (188, [text1, .int .i64 28], (.tup [(.agg [(.int .i64 3), (wd [41]), (.int .u64 0), (.int .i64 28), (.int .i64 29)]), (.int .i64 0)])),
  (188, [text1, .int .i64 29], (.tup [(.agg [(.int .i64 3), (wd [123]), (.int .u64 0), (.int .i64 30), (.int .i64 31)]), (.int .i64 0)])),
  (188, [text1, .int .i64 31], (.tup [(.agg [(.int .i64 4), (wd [114, 101, 116, 117, 114, 110]), (.int .u64 0), (.int .i64 32), (.int .i64 38)]), (.int .i64 0)])),
  (188, [text1, .int .i64 38], (.tup [(.agg [(.int .i64 1), (wd [97]), (.int .u64 0), (.int .i64 39), (.int .i64 40)]), (.int .i64 0)])),
  (188, [text1, .int .i64 40], (.tup [(.agg [(.int .i64 3), (wd [43]), (.int .u64 0), (.int .i64 41), (.int .i64 42)]), (.int .i64 0)])),
  (188, [text1, .int .i64 42], (.tup [(.agg [(.int .i64 2), (wd [49]), (.int .u64 1), (.int .i64 43), (.int .i64 44)]), (.int .i64 0)])),
  (188, [text1, .int .i64 44], (.tup [(.agg [(.int .i64 3), (wd [125]), (.int .u64 0), (.int .i64 45), (.int .i64 46)]), (.int .i64 0)])),
  (188, [text1, .int .i64 46], (.tup [(.agg [(.int .i64 0), (wd []), (.int .u64 0), (.int .i64 46), (.int .i64 46)]), (.int .i64 0)]))]
def text2 : AV := bv [112, 97, 99, 107, 97, 103, 101, 32, 112, 32, 102, 117, 110, 99, 32, 102, 40, 97, 32, 105, 110, 116, 41, 32, 40, 98, 121, 116, 101, 41, 32, 123, 32, 114, 101, 116, 117, 114, 110, 32, 97, 32, 43, 32, 49, 32, 125] .any
def takes2 : List (Nat × List AV × AV) := [
  (188, [text2, .int .i64 0], (.tup [(.agg [(.int .i64 4), (wd [112, 97, 99, 107, 97, 103, 101]), (.int .u64 0), (.int .i64 0), (.int .i64 7)]), (.int .i64 0)])),
  (188, [text2, .int .i64 7], (.tup [(.agg [(.int .i64 1), (wd [112]), (.int .u64 0), (.int .i64 8), (.int .i64 9)]), (.int .i64 0)])),
  (188, [text2, .int .i64 9], (.tup [(.agg [(.int .i64 4), (wd [102, 117, 110, 99]), (.int .u64 0), (.int .i64 10), (.int .i64 14)]), (.int .i64 0)])),
  (188, [text2, .int .i64 14], (.tup [(.agg [(.int .i64 1), (wd [102]), (.int .u64 0), (.int .i64 15), (.int .i64 16)]), (.int .i64 0)])),
  (188, [text2, .int .i64 16], (.tup [(.agg [(.int .i64 3), (wd [40]), (.int .u64 0), (.int .i64 16), (.int .i64 17)]), (.int .i64 0)])),
  (188, [text2, .int .i64 17], (.tup [(.agg [(.int .i64 1), (wd [97]), (.int .u64 0), (.int .i64 17), (.int .i64 18)]), (.int .i64 0)])),
  (188, [text2, .int .i64 18], (.tup [(.agg [(.int .i64 4), (wd [105, 110, 116]), (.int .u64 0), (.int .i64 19), (.int .i64 22)]), (.int .i64 0)])),
  (188, [text2, .int .i64 22], (.tup [(.agg [(.int .i64 3), (wd [41]), (.int .u64 0), (.int .i64 22), (.int .i64 23)]), (.int .i64 0)])),
  (188, [text2, .int .i64 23], (.tup [(.agg [(.int .i64 3), (wd [40]), (.int .u64 0), (.int .i64 24), (.int .i64 25)]), (.int .i64 0)])),
  (188, [text2, .int .i64 25], (.tup [(.agg [(.int .i64 4), (wd [98, 121, 116, 101]), (.int .u64 0), (.int .i64 25), (.int .i64 29)]), (.int .i64 0)])),
  (188, [text2, .int .i64 29], (.tup [(.agg [(.int .i64 3), (wd [41]), (.int .u64 0), (.int .i64 29), (.int .i64 30)]), (.int .i64 0)])),
  (188, [text2, .int .i64 30], (.tup [(.agg [(.int .i64 3), (wd [123]), (.int .u64 0), (.int .i64 31), (.int .i64 32)]), (.int .i64 0)])),
  (188, [text2, .int .i64 32], (.tup [(.agg [(.int .i64 4), (wd [114, 101, 116, 117, 114, 110]), (.int .u64 0), (.int .i64 33), (.int .i64 39)]), (.int .i64 0)])),
  (188, [text2, .int .i64 39], (.tup [(.agg [(.int .i64 1), (wd [97]), (.int .u64 0), (.int .i64 40), (.int .i64 41)]), (.int .i64 0)])),
  (188, [text2, .int .i64 41], (.tup [(.agg [(.int .i64 3), (wd [43]), (.int .u64 0), (.int .i64 42), (.int .i64 43)]), (.int .i64 0)])),
  (188, [text2, .int .i64 43], (.tup [(.agg [(.int .i64 2), (wd [49]), (.int .u64 1), (.int .i64 44), (.int .i64 45)]), (.int .i64 0)])),
  (188, [text2, .int .i64 45], (.tup [(.agg [(.int .i64 3), (wd [125]), (.int .u64 0), (.int .i64 46), (.int .i64 47)]), (.int .i64 0)])),
  (188, [text2, .int .i64 47], (.tup [(.agg [(.int .i64 0), (wd []), (.int .u64 0), (.int .i64 47), (.int .i64 47)]), (.int .i64 0)]))]
def idents : List (Nat × List AV × AV) := [(131, [wd [102]], .bool true), (131, [wd [97]], .bool true)]
def parsed1 : AV := (.tup [(.agg [(.vs 0 [] .any), (.vs 4 [(.agg [(wd [102]), (.vs 4 [(.agg [(wd [97]), (.int .i64 4), (wd []), (.vs 0 [] .any)])] .any), (.vs 3 [(.agg [(.int .i64 4), (wd []), (.vs 0 [] .any)])] .any), (.vs 10 [(.agg [(.int .i64 6), (.vs 0 [] .any), (.int .i64 0), (wd []), (.vs 0 [] .any), (.vs 0 [] .any), (.vs 8 [(.agg [(.int .i64 6), (wd [43]), (.int .u64 0), (.int .i64 0), (wd []), (.vs 0 [] .any), (.vs 0 [] .any), (.vs 8 [(.agg [(.int .i64 1), (wd [97]), (.int .u64 0), (.int .i64 0), (wd []), (.vs 0 [] .any), (.vs 0 [] .any), (.vs 0 [] .any)]), (.agg [(.int .i64 2), (wd []), (.int .u64 1), (.int .i64 0), (wd []), (.vs 0 [] .any), (.vs 0 [] .any), (.vs 0 [] .any)])] .any)])] .any), (.vs 0 [] .any), (.vs 0 [] .any), (.vs 0 [] .any)])] .any)])] .any)]), (.int .i64 0)])
def tree1 : AV := (.agg [(.vs 0 [] .any), (.vs 4 [(.agg [(wd [102]), (.vs 4 [(.agg [(wd [97]), (.int .i64 4), (wd []), (.vs 0 [] .any)])] .any), (.vs 3 [(.agg [(.int .i64 4), (wd []), (.vs 0 [] .any)])] .any), (.vs 10 [(.agg [(.int .i64 6), (.vs 0 [] .any), (.int .i64 0), (wd []), (.vs 0 [] .any), (.vs 0 [] .any), (.vs 8 [(.agg [(.int .i64 6), (wd [43]), (.int .u64 0), (.int .i64 0), (wd []), (.vs 0 [] .any), (.vs 0 [] .any), (.vs 8 [(.agg [(.int .i64 1), (wd [97]), (.int .u64 0), (.int .i64 0), (wd []), (.vs 0 [] .any), (.vs 0 [] .any), (.vs 0 [] .any)]), (.agg [(.int .i64 2), (wd []), (.int .u64 1), (.int .i64 0), (wd []), (.vs 0 [] .any), (.vs 0 [] .any), (.vs 0 [] .any)])] .any)])] .any), (.vs 0 [] .any), (.vs 0 [] .any), (.vs 0 [] .any)])] .any)])] .any)])
def parsed2 : AV := (.tup [(.agg [(.vs 0 [] .any), (.vs 4 [(.agg [(wd [102]), (.vs 4 [(.agg [(wd [97]), (.int .i64 4), (wd []), (.vs 0 [] .any)])] .any), (.vs 3 [(.agg [(.int .i64 2), (wd []), (.vs 0 [] .any)])] .any), (.vs 10 [(.agg [(.int .i64 6), (.vs 0 [] .any), (.int .i64 0), (wd []), (.vs 0 [] .any), (.vs 0 [] .any), (.vs 8 [(.agg [(.int .i64 6), (wd [43]), (.int .u64 0), (.int .i64 0), (wd []), (.vs 0 [] .any), (.vs 0 [] .any), (.vs 8 [(.agg [(.int .i64 1), (wd [97]), (.int .u64 0), (.int .i64 0), (wd []), (.vs 0 [] .any), (.vs 0 [] .any), (.vs 0 [] .any)]), (.agg [(.int .i64 2), (wd []), (.int .u64 1), (.int .i64 0), (wd []), (.vs 0 [] .any), (.vs 0 [] .any), (.vs 0 [] .any)])] .any)])] .any), (.vs 0 [] .any), (.vs 0 [] .any), (.vs 0 [] .any)])] .any)])] .any)]), (.int .i64 0)])
def tree2 : AV := (.agg [(.vs 0 [] .any), (.vs 4 [(.agg [(wd [102]), (.vs 4 [(.agg [(wd [97]), (.int .i64 4), (wd []), (.vs 0 [] .any)])] .any), (.vs 3 [(.agg [(.int .i64 2), (wd []), (.vs 0 [] .any)])] .any), (.vs 10 [(.agg [(.int .i64 6), (.vs 0 [] .any), (.int .i64 0), (wd []), (.vs 0 [] .any), (.vs 0 [] .any), (.vs 8 [(.agg [(.int .i64 6), (wd [43]), (.int .u64 0), (.int .i64 0), (wd []), (.vs 0 [] .any), (.vs 0 [] .any), (.vs 8 [(.agg [(.int .i64 1), (wd [97]), (.int .u64 0), (.int .i64 0), (wd []), (.vs 0 [] .any), (.vs 0 [] .any), (.vs 0 [] .any)]), (.agg [(.int .i64 2), (wd []), (.int .u64 1), (.int .i64 0), (wd []), (.vs 0 [] .any), (.vs 0 [] .any), (.vs 0 [] .any)])] .any)])] .any), (.vs 0 [] .any), (.vs 0 [] .any), (.vs 0 [] .any)])] .any)])] .any)])
def sp1 : SpA := tabSp spB [188, 131] (takes1 ++ takes2 ++ idents)
def parses1 : List Ans := [(43, [text1], parsed1)]
def parses2 : List Ans := [(43, [text2], parsed2)]
def rights : List Ans := [(24, [tree1], .bool true), (24, [tree2], .bool true)]
def sp2 : SpA := tabSp sp1 [43, 24] (parses1 ++ parses2 ++ rights)

end Go.Proofs.YtfckkiebffmkfaaGreatDoor.AM
