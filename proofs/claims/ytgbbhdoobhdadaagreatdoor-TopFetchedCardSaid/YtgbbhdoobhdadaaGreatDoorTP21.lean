/- Part 21. -/
import Derived.Test.YtgbbhdoobhdadaaGreatDoorTP2
import Derived.Lib.Bytealg
section
namespace Go.Am
def cmpS (a b : Str) : Int := Lib.compareBytes a b
def shrI (a b : Int) : Int := a.fdiv (2 ^ b.toNat)
def shlI (a b : Int) : Int := a * 2 ^ b.toNat
def andI (a b : Int) : Int := IntKind.i64.wrap ((BitVec.ofInt 64 a &&& BitVec.ofInt 64 b).toNat : Int)
def orI (a b : Int) : Int := IntKind.i64.wrap ((BitVec.ofInt 64 a ||| BitVec.ofInt 64 b).toNat : Int)
def andNotI (a b : Int) : Int := IntKind.i64.wrap ((BitVec.ofInt 64 a &&& ~~~ BitVec.ofInt 64 b).toNat : Int)
section
variable {E : Env} {σ : Sl} {hs : List Thing} {xt ty : TypeId} {x y : Operand} {a b : Int}
theorem Val.shr {k : IntKind} (hx : evs σ x = some (iv a)) (hy : evs σ y = some (ivk k b)) (h : 0 ≤ b ∧ b < 64) : Val E σ hs (.binOp .shr xt x y ty) (iv (shrI a b)) := fun ev S he _ o ho => by
 have hp : abin E .shr xt x y (iv a) (ivk k b) = .ok (iv (shrI a b)) := by
  simp only [abin, abinPure, toV, Except.bind]
  have e : (pureVal E.P (do eqGuard .shr xt x y (.int .i64 a) (.int k b); binOp .shr xt (.int .i64 a) (.int k b))) = some (.int .i64 (shrI a b)) := by
   show pureVal E.P (Op.shift .shr .i64 a k b) = _;unfold Op.shift;rw [if_neg (by omega)]
   have hm : min b.toNat IntKind.i64.bits = b.toNat := Nat.min_eq_left (show b.toNat ≤ 64 by omega);simp only [hm];rfl
  rw [e];rfl
 unfold aop; rw [ho]; simp only [he _ _ hx, he _ _ hy, hp]; rfl
theorem Val.shl {k : IntKind} (hx : evs σ x = some (iv a)) (hy : evs σ y = some (ivk k b)) (h : (0 ≤ b ∧ b < 64) ∧ I64 (shlI a b)) : Val E σ hs (.binOp .shl xt x y ty) (iv (shlI a b)) := fun ev S he _ o ho => by
 have hp : abin E .shl xt x y (iv a) (ivk k b) = .ok (iv (shlI a b)) := by
  simp only [abin, abinPure, toV, Except.bind]
  have e : (pureVal E.P (do eqGuard .shl xt x y (.int .i64 a) (.int k b); binOp .shl xt (.int .i64 a) (.int k b))) = some (.int .i64 (shlI a b)) := by
   show pureVal E.P (Op.shift .shl .i64 a k b) = _;unfold Op.shift;rw [if_neg (by omega)]
   have hm : min b.toNat IntKind.i64.bits = b.toNat := Nat.min_eq_left (show b.toNat ≤ 64 by omega)
   have hw : IntKind.i64.wrap (a * 2 ^ b.toNat) = shlI a b := wrap_id h.2.1 h.2.2;simp only [hm, hw];rfl
  rw [e];rfl
 unfold aop; rw [ho]; simp only [he _ _ hx, he _ _ hy, hp]; rfl
theorem Val.and (hx : evs σ x = some (iv a)) (hy : evs σ y = some (iv b)) : Val E σ hs (.binOp .and xt x y ty) (iv (andI a b)) := fun ev S he _ o ho => by
 have hp : abin E .and xt x y (iv a) (iv b) = .ok (iv (andI a b)) := rfl;unfold aop; rw [ho]; simp only [he _ _ hx, he _ _ hy, hp]; rfl
theorem Val.or (hx : evs σ x = some (iv a)) (hy : evs σ y = some (iv b)) : Val E σ hs (.binOp .or xt x y ty) (iv (orI a b)) := fun ev S he _ o ho => by
 have hp : abin E .or xt x y (iv a) (iv b) = .ok (iv (orI a b)) := rfl;unfold aop; rw [ho]; simp only [he _ _ hx, he _ _ hy, hp]; rfl
theorem Val.andNot (hx : evs σ x = some (iv a)) (hy : evs σ y = some (iv b)) : Val E σ hs (.binOp .andNot xt x y ty) (iv (andNotI a b)) := fun ev S he _ o ho => by
 have hp : abin E .andNot xt x y (iv a) (iv b) = .ok (iv (andNotI a b)) := rfl;unfold aop; rw [ho]; simp only [he _ _ hx, he _ _ hy, hp]; rfl
end
end Go.Am
end
