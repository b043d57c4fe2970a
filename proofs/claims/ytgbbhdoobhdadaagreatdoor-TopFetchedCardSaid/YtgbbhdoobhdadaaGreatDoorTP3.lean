/- Part 3. -/
import Derived.Test.YtgbbhdoobhdadaaGreatDoorTP1
section
namespace Go.Am.YtgbbhdoobhdadaaGreatDoor
open Go.Am Go.RowKit
def i (n : Int) : AV := .lit (.int .i64 n)
def nilW : AV := .lit (.slice none 0 0)
def str (l : List UInt8) : AV := .lit (.string ⟨l.toArray⟩)
def ints (l : List Int) : AV := .tree 1 l.length (l.map i)
def mk (c n : Int) (x : List UInt8) : List AV := [i c, i n, str x]
def bk (c n : Int) (x : List UInt8) (l : List Int) : List AV := i c :: i n :: str x :: l.map i
def books : List AV := bk 0 2 [] [40,280,5,0] ++ (bk 0 10 [] [50,200,4,0] ++ (bk 0 10 [97] [30,240,3,1] ++ (bk 1 1 [] [20,200,2,1] ++ bk 1 3 [98] [60,380,9,2])))
def mixedBooks : List AV := bk 0 2 [] [40,280,5,0] ++ (bk 1 1 [] [50,200,4,0] ++ (bk 0 10 [97] [30,240,3,1] ++ (bk 0 10 [] [20,200,2,1] ++ bk 1 3 [98] [60,380,9,2])))
def roomOf (b : List AV) : AV := .agg [.tree 1 2 [str [104, 105, 115, 116], str [97, 114, 116]], .tree 4 3 ([10,0,100,300,10,3,60,250,25,0,120,400].map i), .tree 7 5 b]
def room : AV := roomOf books
def mixed : AV := roomOf mixedBooks
def checkT : List (List AV × AV) := [([room], .tuple [i 0, i 0, i 0]), ([mixed], .tuple [i 0, i 0, i 0])]
theorem check_run : checkT.all (fun x => runsB (envJ noOrc) 100000 92 x.1 x.2) = true := by kernel_rfl
def orc1 : Orc := fun f => match f with | 92 => some (table checkT) | _ => none
theorem good1 : EnvGood (envJ orc1) := goodJ fun f g h => by
 unfold orc1 at h;split at h
 ·cases h;exact table_meets good0 fun x hx => .of 100000 (List.all_eq_true.1 check_run x hx)
 ·cases h
theorem more {o : Orc} (ho : EnvGood (envJ o)) {f : Nat} {l : List (List AV × AV)} (h : l.all (fun x => runsB (envJ o) 100000 f x.1 x.2) = true) : Meets Go.Proofs.Tryz.prog f (table l) :=
 table_meets ho fun x hx => .of 100000 (List.all_eq_true.1 h x hx)
end Go.Am.YtgbbhdoobhdadaaGreatDoor
end
