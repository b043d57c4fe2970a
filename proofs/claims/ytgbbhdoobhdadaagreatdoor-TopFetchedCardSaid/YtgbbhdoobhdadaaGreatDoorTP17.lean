/- Part 17. -/
import Derived.Test.YtgbbhdoobhdadaaGreatDoorTP16
section
namespace Go.Am.YtgbbhdoobhdadaaGreatDoor
open Go.Am Go.RowKit
def z5 : List AV := [i 0, i 0, i 0, i 0, i 0]
def listsL (lo : Int) : List AV := [
  .tree 5 3 [R10.st [97, 116, 108, 97, 115], i 2, i lo, i 60, R10.bo true, R10.st [112, 115, 97, 108, 116, 101, 114], i 4, i 10, i 10, R10.bo false, R10.st [110, 111, 118, 101, 108], i 1, i 200, i 200, R10.bo false],
  .tree 2 2 [R10.st [97, 100, 97], i 2, R10.st [98, 111], i 5], .tree 2 1 [i 10, R10.bo false],
  .tree 4 5 [i 0, i 0, i 6, i 20, i 1, i 1, i 2, i 30, i 0, i 2, i 8, i 10, i 0, i 1, i 1, i 50, i 1, i 0, i 4, i 15]]
def roomRows (lo : Int) : List CRow := [
  (listsL lo ++ (i 60 :: z5 ++ i 20 :: z5 ++ i 80 :: z5 ++ i 10 :: z5 ++ i 40 :: z5 ++ List.replicate 18 (i 0)) ++ [.slice 4 0 6 true 3 3], 6, 53), (listsL lo, 4, 0), ([.func 119 [] [.ptr 1 0 4]], 1, 1), ([.ptr 0 0 53], 1, 1),
  ([i 1, .func 120 [] [.ptr 2 0 1, .ptr 1 0 4], i 2, .func 121 [] [.ptr 2 0 1, .ptr 1 0 4], i 3, .func 122 [] [.ptr 3 0 1, .ptr 2 0 1]], 2, 0)]
def best1 : List CRow × List AV × AV := (roomRows 40, [.ptr 0 0 53], .tuple [ints [4], i 15])
def best2 : List CRow × List AV × AV := (roomRows 60, [.ptr 0 0 53], .tuple [ints [0], i 20])
theorem best1_run : anewB (envJ noOrc) 100000 83 best1 = true := by kernel_rfl
end Go.Am.YtgbbhdoobhdadaaGreatDoor
end
