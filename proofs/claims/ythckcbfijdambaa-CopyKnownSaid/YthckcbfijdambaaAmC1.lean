/- Copy: closed calls of layer 1. -/
import Derived.Test.YthckcbfijdambaaAmEnv1
import Derived.Test.YthckcbfijdambaaAmT
namespace Go.Am.Ythckcbfijdambaa
open Go.Am Go.RowKit

abbrev Orc := Nat → Option (List AV → Option AV)
def noOrc : Orc := fun _ => none
def bodyOk (f : Func) : Bool := match f.body with | some c => codeOk c | none => true
theorem bodies_ok : funcs.all bodyOk = true := by kernel_rfl
theorem mixed_ok : Go.Proofs.Try.prog.follows .mixedOrders = true := by kernel_rfl

theorem good {orc : Orc} (h : ∀ f g, orc f = some g → Meets Go.Proofs.Try.prog f g) : EnvGood (env orc) :=
  { ok := ok orc, orc := h, mixed := mixed_ok,
    body := fun f fn c h1 h2 => by
      have := BT.all.get bodies_ok h1
      unfold bodyOk at this
      rw [h2] at this
      exact this }

theorem good0 : EnvGood (env noOrc) := good fun f g h => by cases h

def i (n : Int) : AV := .lit (.int .i64 n)
def nilS : AV := .lit (.slice none 0 0)
def book : AV := .agg [i 0, .tree 4 2 [i 1, i 0, i 4, nilS, i 1, i 1, i 4, nilS]]

def checkT : List (List AV × AV) := [([book], .tuple [i 0, i 0, i 0])]
def leavesT : List (List AV × AV) := [([book], .tuple [.tree 4 8 [i 0, i 1, i 0, i 0, i 0, i 2, i 0, i 0, i 0, i 3, i 0, i 0, i 0, i 4, i 0, i 0, i 1, i 1, i 0, i 0, i 1, i 2, i 0, i 0, i 1, i 3, i 0, i 0, i 1, i 4, i 0, i 0], i 0])]
def mateT : List (List AV × AV) := [([book, i 0], .tuple [i 3, i 0]), ([book, i 1], .tuple [i 2, i 0]), ([book, i 2], .tuple [i 1, i 0]), ([book, i 3], .tuple [i 0, i 0]), ([book, i 4], .tuple [i 7, i 0]), ([book, i 5], .tuple [i 6, i 0]), ([book, i 6], .tuple [i 5, i 0]), ([book, i 7], .tuple [i 4, i 0])]

theorem check_run : runsB (env noOrc) 100000 56 [book] (.tuple [i 0, i 0, i 0]) = true := by kernel_rfl
def orc1 : Orc := fun f => match f with | 56 => some (table checkT) | _ => none
theorem good1 : EnvGood (env orc1) := good fun f g h => by
  unfold orc1 at h
  split at h
  · cases h
    exact table_meets good0 fun x hx => by
      simp only [checkT, List.mem_singleton] at hx
      subst hx
      exact .of 100000 check_run
  · cases h
theorem leaves_run : leavesT.all (fun x => runsB (env orc1) 100000 57 x.1 x.2) = true := by kernel_rfl
def orc2 : Orc := fun f => match f with | 56 => some (table checkT) | 57 => some (table leavesT) | _ => none
theorem good2 : EnvGood (env orc2) := good fun f g h => by
  unfold orc2 at h
  split at h
  · exact good1.orc 56 g h
  · cases h
    exact table_meets good1 fun x hx => .of 100000 (List.all_eq_true.1 leaves_run x hx)
  · cases h
theorem mate_run : mateT.all (fun x => runsB (env orc2) 100000 59 x.1 x.2) = true := by kernel_rfl
def orc3 : Orc := fun f => match f with | 56 => some (table checkT) | 57 => some (table leavesT) | 59 => some (table mateT) | _ => none
theorem good3 : EnvGood (env orc3) := good fun f g h => by
  unfold orc3 at h
  split at h
  · exact good1.orc 56 g h
  · exact good2.orc 57 g h
  · cases h
    exact table_meets good2 fun x hx => .of 100000 (List.all_eq_true.1 mate_run x hx)
  · cases h
end Go.Am.Ythckcbfijdambaa
