/- Part 8. -/
import Derived.Test.YtgbbhdoobhdadaaGreatDoorTP3
section
namespace Go.Am.YtgbbhdoobhdadaaGreatDoor
open Go.Am Go.RowKit
def tripsL : List (Int × Int) := [(0, 0), (20, 5), (20, 4), (20, 9), (26, 3), (26, 8), (26, 7), (26, 12), (26, 2), (26, 7), (26, 6), (26, 11), (26, 5), (26, 10), (26, 9), (26, 14), (50, 9), (50, 14), (50, 13), (50, 18), (56, 12), (56, 17), (56, 16), (56, 21), (56, 11), (56, 16), (56, 15), (56, 20), (56, 14), (56, 19), (56, 18), (56, 23)]
def tripsOf : List (Int × Int) → Int → List (List AV × AV)
 | [], _ => []
 | x :: l, n => ([room, ints [0, 1, 2, 3, 4], i n], .tuple [i x.1, i x.2]) :: tripsOf l (n + 1)
def tripT : List (List AV × AV) := tripsOf tripsL 0
theorem trip_run : tripT.all (fun x => runsB (envJ noOrc) 100000 51 x.1 x.2) = true := by kernel_rfl
def orc2 : Orc := fun f => match f with | 51 => some (table tripT) | f => orc1 f
theorem good2 : EnvGood (envJ orc2) := goodJ fun f g h => by
 unfold orc2 at h;split at h
 ·cases h;exact more good0 trip_run
 ·exact good1.orc _ g h
def walkT : List (List AV × AV) := [([room, ints [0, 1, 2, 3, 4], i 14], .tuple [ints [0, 0, 0, 0, 1], i 76, i 0])]
theorem walk_run : walkT.all (fun x => runsB (envJ orc2) 100000 9 x.1 x.2) = true := by kernel_rfl
end Go.Am.YtgbbhdoobhdadaaGreatDoor
end
