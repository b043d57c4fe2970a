/- Part 6. -/
import Derived.Test.YtgbbhdoobhdadaaGreatDoorTP3
section
namespace Go.Am.YtgbbhdoobhdadaaGreatDoor
open Go.Am Go.RowKit
def fitsT : List (List AV × AV) := [([room, .agg (bk 1 2 [] [20, 200, 1, 0])], .tuple [ints [2], i 0]), ([room, .agg (bk 0 4 [] [20, 200, 1, 0])], .tuple [nilW, i 0])]
theorem fits_run : fitsT.all (fun x => runsB (envJ orc1) 100000 26 x.1 x.2) = true := by kernel_rfl
end Go.Am.YtgbbhdoobhdadaaGreatDoor
end
