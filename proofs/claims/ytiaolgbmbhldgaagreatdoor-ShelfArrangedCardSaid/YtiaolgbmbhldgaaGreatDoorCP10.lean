/- Part 10. -/
import Derived.Test.YtiaolgbmbhldgaaGreatDoorCP2
import Derived.Lib.Bytealg
section
namespace Go.Am
def cmpS (a b : Str) : Int := Lib.compareBytes a b
section
variable {E : Env} {σ : Sl} {hs : List Thing} {xt ty : TypeId} {x y : Operand} {a b : Int}
end
end Go.Am
end
