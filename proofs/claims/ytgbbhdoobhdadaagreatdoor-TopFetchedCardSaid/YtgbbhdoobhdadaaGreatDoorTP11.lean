/- Part 11. -/
import Derived.Test.YtgbbhdoobhdadaaGreatDoorTP10
import Derived.Test.YtgbbhdoobhdadaaGreatDoorTP3
section
namespace Go.Am.YtgbbhdoobhdadaaGreatDoor
open Go.Am Go.RowKit
def orcR10 : Orc := fun f => match f with | 32 => some (table R10.roomT) | _ => none
theorem goodR10 : EnvGood (envJ orcR10) := goodJ fun f g h => by
 unfold orcR10 at h;split at h
 ·cases h; exact R10.room_meets
 ·cases h
def why10T : List (List AV × AV) := [([R10.room3, i 0, i 0], .tuple [i 3, i 0]), ([R10.room3, i 3, i 1], .tuple [i 1, i 0])]
theorem why10_run : why10T.all (fun x => runsB (envJ orcR10) 100000 33 x.1 x.2) = true := by kernel_rfl
def can10T : List (List AV × AV) := [([R10.room3, ints [0, 1]], .tuple [R10.bo true, i 0]), ([R10.room3, ints [0, 4]], .tuple [R10.bo false, i 0])]
theorem can10_run : can10T.all (fun x => runsB (envJ orcR10) 100000 34 x.1 x.2) = true := by kernel_rfl
end Go.Am.YtgbbhdoobhdadaaGreatDoor
end
