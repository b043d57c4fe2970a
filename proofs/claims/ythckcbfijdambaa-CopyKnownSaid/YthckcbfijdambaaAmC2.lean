/- Copy: closed calls of layer 4, and Awake. -/
import Derived.Test.YthckcbfijdambaaAmC1
namespace Go.Am.Ythckcbfijdambaa
open Go.Am Go.RowKit

def one (l : List Int) : AV := .tree 1 l.length (l.map i)
def gs : List AV := [i 1, i 0, i 4, nilS, i 1, i 1, i 4, nilS]
def kase : AV := .agg [i 0, .tree 4 2 gs, .tree 1 8 [one [4], one [5], nilS, one [0], one [1], one [3], one [1], one [6, 7]]]
def kase2 : AV := .agg [i 0, .tree 4 2 gs, .tree 1 6 [one [0], one [3], one [4], one [5], one [6], one [7]]]
def faultsT : List (List AV × AV) := [
  ([kase], .tuple [.agg [one [4, 5, -1, 0, 1, 3, 1, 6], one [2, 7], i 2, one [2], one [6], one [3], i 5], i 0]),
  ([kase2], .tuple [.agg [one [0, 3, 4, 5, 6, 7], one [1, 2], i 1, nilS, nilS, nilS, i 1], i 0])]
theorem faults_run : faultsT.all (fun x => runsB (env orc3) 100000 19 x.1 x.2) = true := by kernel_rfl
def rangeT : List (List AV × AV) := [([kase], .tuple [.agg [i 5, i 5], i 0])]
theorem range_run : rangeT.all (fun x => runsB (env orc3) 100000 27 x.1 x.2) = true := by kernel_rfl
def lostT : List (List AV × AV) := [([kase], .tuple [one [2], one [2, 6, 7], i 0])]
theorem lost_run : lostT.all (fun x => runsB (env orc3) 100000 33 x.1 x.2) = true := by kernel_rfl
def looseT : List (List AV × AV) := [([kase], .tuple [one [1], one [1, 4, 5], i 0])]
theorem loose_run : looseT.all (fun x => runsB (env orc3) 100000 44 x.1 x.2) = true := by kernel_rfl
def kase7 : AV := .agg [i 0, .tree 4 2 gs, .tree 1 7 [one [4], one [5], nilS, one [0], one [1], one [3], one [1]]]
def askT : List (List AV × AV) := [([kase], .tuple [i 7, i 0]), ([kase7], .tuple [i 0, i 4])]
theorem ask_run : askT.all (fun x => runsB (env orc3) 100000 18 x.1 x.2) = true := by kernel_rfl
def items (l : List Int) : AV := .tree 1 l.length (l.map fun n => one [n])
def dividedT : List (List AV × AV) := [([book, items [0, 1], items [2, 3, 4]], .tuple [one [0, 1], i 0]), ([book, items [0], items [0]], .tuple [nilS, i 5]), ([book, items [0, 3], items [1, 2]], .tuple [nilS, i 0])]
theorem divided_run : dividedT.all (fun x => runsB (env orc3) 100000 11 x.1 x.2) = true := by kernel_rfl
def orc4 : Orc := fun f => match f with
  | 56 => some (table checkT) | 57 => some (table leavesT) | 59 => some (table mateT)
  | 19 => some (table faultsT) | 27 => some (table rangeT) | 33 => some (table lostT) | 44 => some (table looseT) | 18 => some (table askT) | 11 => some (table dividedT) | _ => none
theorem good4 : EnvGood (env orc4) := good fun f g h => by
  unfold orc4 at h
  split at h
  · exact good3.orc 56 g h
  · exact good3.orc 57 g h
  · exact good3.orc 59 g h
  · cases h; exact table_meets good3 fun x hx => .of 100000 (List.all_eq_true.1 faults_run x hx)
  · cases h; exact table_meets good3 fun x hx => .of 100000 (List.all_eq_true.1 range_run x hx)
  · cases h; exact table_meets good3 fun x hx => .of 100000 (List.all_eq_true.1 lost_run x hx)
  · cases h; exact table_meets good3 fun x hx => .of 100000 (List.all_eq_true.1 loose_run x hx)
  · cases h; exact table_meets good3 fun x hx => .of 100000 (List.all_eq_true.1 ask_run x hx)
  · cases h; exact table_meets good3 fun x hx => .of 100000 (List.all_eq_true.1 divided_run x hx)
  · cases h
def boundT : List (List AV × AV) := [([kase], .tuple [one [3, 4, 5, 0, 1, 7], i 0])]
theorem bound_run : boundT.all (fun x => runsB (env orc4) 100000 30 x.1 x.2) = true := by kernel_rfl
def orc5 : Orc := fun f => match f with | 30 => some (table boundT) | f => orc4 f
theorem good5 : EnvGood (env orc5) := good fun f g h => by
  unfold orc5 at h
  split at h
  · cases h; exact table_meets good4 fun x hx => .of 100000 (List.all_eq_true.1 bound_run x hx)
  · exact good4.orc _ g h
theorem awake_run : runsB (env orc5) 100000 14 [] (.lit (.bool true)) = true := by kernel_rfl
def orc6 : Orc := fun f => match f with | 14 => some (table [([], .lit (.bool true))]) | f => orc5 f
theorem good6 : EnvGood (env orc6) := good fun f g h => by
  unfold orc6 at h
  split at h
  · cases h; exact table_meets good5 fun x hx => by
      simp only [List.mem_singleton] at hx
      subst hx
      exact .of 100000 awake_run
  · exact good5.orc _ g h
end Go.Am.Ythckcbfijdambaa
