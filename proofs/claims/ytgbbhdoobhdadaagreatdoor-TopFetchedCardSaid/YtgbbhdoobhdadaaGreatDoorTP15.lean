/- Part 15. -/
import Derived.Test.YtgbbhdoobhdadaaGreatDoorTP11
section
namespace Go.Am.YtgbbhdoobhdadaaGreatDoor
open Go.Am Go.RowKit
def bitsOf (n : Nat) : List Int := ((List.range 5).filter fun k => n.testBit k).map Int.ofNat
def listOf (n : Nat) : AV := match bitsOf n with | [] => .lit (.slice none 0 0) | l => ints l
def list10T : List (List AV × AV) := (List.range 32).map fun (n : Nat) => ([i (Int.ofNat n)], listOf n)
theorem list10_run : list10T.all (fun x => runsB (envJ noOrc) 100000 118 x.1 x.2) = true := by kernel_rfl
def check10T : List (List AV × AV) := [([R10.room1], .tuple [i 0, i 0, i 0])]
theorem check10_run : check10T.all (fun x => runsB (envJ noOrc) 100000 91 x.1 x.2) = true := by kernel_rfl
def orcL10 : Orc := fun f => match f with | 118 => some (table list10T) | 91 => some (table check10T) | _ => none
theorem goodL10 : EnvGood (envJ orcL10) := goodJ fun f g h => by
 unfold orcL10 at h;split at h
 ·cases h; exact table_meets good0 fun x hx => .of 100000 (List.all_eq_true.1 list10_run x hx)
 ·cases h; exact table_meets good0 fun x hx => .of 100000 (List.all_eq_true.1 check10_run x hx)
 ·cases h
end Go.Am.YtgbbhdoobhdadaaGreatDoor
end
