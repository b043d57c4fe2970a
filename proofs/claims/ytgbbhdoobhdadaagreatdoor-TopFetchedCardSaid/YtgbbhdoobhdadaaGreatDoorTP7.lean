/- Part 7. -/
import Derived.Test.YtgbbhdoobhdadaaGreatDoorTP3
section
namespace Go.Am.YtgbbhdoobhdadaaGreatDoor
open Go.Am Go.RowKit
def putT : List (List AV × AV) := [([room, .agg (bk 0 4 [] [20, 200, 1, 0])], .tuple [i 1, i 3, ints [0, 0, 1, 2, 2, 2], i 0])]
theorem put_run : putT.all (fun x => runsB (envJ orc1) 100000 28 x.1 x.2) = true := by kernel_rfl
def clearT : List (List AV × AV) := [([room, i 1], .tuple [ints [0, 0, 2, 2, 2], i 2, i 0]), ([room, i 2], .tuple [nilW, i 0, i 9])]
theorem clear_run : clearT.all (fun x => runsB (envJ orc1) 100000 29 x.1 x.2) = true := by kernel_rfl
def arrangeT : List (List AV × AV) := [([room], .tuple [ints [0, 1, 2, 3, 4], ints [0, 0, 1, 1, 2], i 0, i 0])]
theorem arrange_run : arrangeT.all (fun x => runsB (envJ orc1) 100000 30 x.1 x.2) = true := by kernel_rfl
end Go.Am.YtgbbhdoobhdadaaGreatDoor
end
