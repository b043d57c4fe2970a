/- Part 18. -/
import Derived.Test.YtgbbhdoobhdadaaGreatDoorTP17
section
namespace Go.Am.YtgbbhdoobhdadaaGreatDoor
open Go.Am Go.RowKit
theorem best2_run : anewB (envJ noOrc) 100000 83 best2 = true := by kernel_rfl
end Go.Am.YtgbbhdoobhdadaaGreatDoor
end
