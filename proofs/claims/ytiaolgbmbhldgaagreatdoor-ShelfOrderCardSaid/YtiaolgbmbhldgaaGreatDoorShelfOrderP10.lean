/- Part 10. -/
import Derived.Test.YtiaolgbmbhldgaaGreatDoorShelfOrderP2
import Derived.Lib.Bytealg
section
namespace Go.Am
def cmpS (a b : Str) : Int := Lib.compareBytes a b
theorem Val.neg {E : Env} {σ : Sl} {hs : List Thing} {x : Operand} {ty : TypeId} {a : Int} (h : evs σ x = some (iv a)) (hk : I64 (-a)) : Val E σ hs (.unOp .neg ty x) (iv (-a)) := fun ev S he _ o ho => by
 unfold aop; rw [ho]; simp only [he _ _ h, pureOp, toV, Except.bind]
 have e : (0 : Int) - a = -a := by omega
 have w := wrap_id (x := 0 - a) (by rw [e]; exact hk.1) (by rw [e]; exact hk.2)
 have e2 : Op.unary UnOp.neg (.int .i64 a) = pure (.int .i64 (IntKind.i64.wrap (0 - a))) := rfl;rw [e2, w, e];rfl
end Go.Am
end
