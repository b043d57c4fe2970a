/- Part 5. -/
import Derived.Test.YtgbbhdoobhdadaaGreatDoorTP3
section
namespace Go.Am.YtgbbhdoobhdadaaGreatDoor
open Go.Am Go.RowKit
def astrayT : List (List AV × AV) := [([mixed], .tuple [ints [1, 2], i 0]), ([room], .tuple [nilW, i 0])]
theorem astray_run : astrayT.all (fun x => runsB (envJ orc1) 100000 23 x.1 x.2) = true := by kernel_rfl
end Go.Am.YtgbbhdoobhdadaaGreatDoor
end
