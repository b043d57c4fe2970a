/- Part 12. -/
import Derived.Test.YtgbbhdoobhdadaaGreatDoorTP11
section
namespace Go.Am.YtgbbhdoobhdadaaGreatDoor
open Go.Am Go.RowKit
def seats10T : List (List AV × AV) := [([R10.room3, ints [1, 2]], .tuple [ints [2, 1], i 42, i 0])]
theorem seats10_run : seats10T.all (fun x => runsB (envJ orcR10) 100000 35 x.1 x.2) = true := by kernel_rfl
def left10T : List (List AV × AV) := [([R10.room3, ints [0, 1], ints [2, 1]], .tuple [.tree 2 3 [i 10, i 30, i 2, i 2, i 200, i 200], i 0])]
theorem left10_run : left10T.all (fun x => runsB (envJ orcR10) 100000 36 x.1 x.2) = true := by kernel_rfl
def turn10T : List (List AV × AV) := [([R10.room3], .tuple [ints [0, 1], i 0])]
theorem turn10_run : turn10T.all (fun x => runsB (envJ orcR10) 100000 8 x.1 x.2) = true := by kernel_rfl
end Go.Am.YtgbbhdoobhdadaaGreatDoor
end
