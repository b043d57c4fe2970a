/- Part 13. -/
import Derived.Test.YtgbbhdoobhdadaaGreatDoorTP11
section
namespace Go.Am.YtgbbhdoobhdadaaGreatDoor
open Go.Am Go.RowKit
def best10T : List (List AV × AV) := [([R10.room3], .tuple [ints [0, 1], i 50, i 0])]
theorem best10_run : best10T.all (fun x => runsB (envJ orcR10) 100000 37 x.1 x.2) = true := by kernel_rfl
def gives10T : List (List AV × AV) := [([R10.room3, ints [0, 1], i 4], .tuple [ints [0, 1], i 0]), ([R10.room3, ints [0, 1], i 3], .tuple [.lit (.slice none 0 0), i 9])]
theorem gives10_run : gives10T.all (fun x => runsB (envJ orcR10) 100000 38 x.1 x.2) = true := by kernel_rfl
end Go.Am.YtgbbhdoobhdadaaGreatDoor
end
