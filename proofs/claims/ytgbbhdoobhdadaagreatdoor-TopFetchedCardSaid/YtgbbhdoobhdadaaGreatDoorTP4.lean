/- Part 4. -/
import Derived.Test.YtgbbhdoobhdadaaGreatDoorTP3
section
namespace Go.Am.YtgbbhdoobhdadaaGreatDoor
open Go.Am Go.RowKit
def beforeT : List (List AV × AV) := [([room, .agg (mk 1 1 []), .agg (mk 0 10 [])], .tuple [i 1, i 0]), ([room, .agg (mk 0 10 [98]), .agg (mk 0 10 [97, 97])], .tuple [i (-1), i 0])]
theorem before_run : beforeT.all (fun x => runsB (envJ orc1) 100000 19 x.1 x.2) = true := by kernel_rfl
def hist : List UInt8 := [104, 105, 115, 116, 46]
def readT : List (List AV × AV) := [([room, str (hist ++ [49, 48, 97, 98])], .tuple [.agg (mk 0 10 [97, 98]), i 0]), ([room, str (hist ++ [48, 49, 48])], .tuple [.agg (mk 0 0 []), i 6]),
  ([room, str [108, 97, 119, 46, 49]], .tuple [.agg (mk 0 0 []), i 4])]
theorem read_run : readT.all (fun x => runsB (envJ orc1) 100000 21 x.1 x.2) = true := by kernel_rfl
def writeT : List (List AV × AV) := [([room, .agg (mk 1 3 [98])], .tuple [str [97, 114, 116, 46, 51, 98], i 0])]
theorem write_run : writeT.all (fun x => runsB (envJ orc1) 100000 22 x.1 x.2) = true := by kernel_rfl
def spareT : List (List AV × AV) := [([room], .tuple [ints [10, 10, 60], i 0])]
theorem spare_run : spareT.all (fun x => runsB (envJ orc1) 100000 25 x.1 x.2) = true := by kernel_rfl
end Go.Am.YtgbbhdoobhdadaaGreatDoor
end
