/- Part 20. -/
import Derived.Test.YtgbbhdoobhdadaaGreatDoorTP9
import Derived.Test.YtgbbhdoobhdadaaGreatDoorTP12
import Derived.Test.YtgbbhdoobhdadaaGreatDoorTP13
import Derived.Test.YtgbbhdoobhdadaaGreatDoorTP19
section
namespace Go.Am.YtgbbhdoobhdadaaGreatDoor
open Go.Am Go.RowKit
theorem more10 {orc : Orc} (hg : EnvGood (envJ orc)) {f : Nat} {l : List (List AV × AV)} (h : l.all (fun x => runsB (envJ orc) 100000 f x.1 x.2) = true) : Meets Go.Proofs.Tryz.prog f (table l) :=
 table_meets hg fun x hx => .of 100000 (List.all_eq_true.1 h x hx)
def orcB : Orc := fun f => match f with
 | 32 => some (table R10.roomT) | 33 => some (table why10T) | 34 => some (table can10T) | 35 => some (table seats10T) | 36 => some (table left10T) | 8 => some (table turn10T)
 | 37 => some (table best10T) | 38 => some (table gives10T) | 39 => some (table ask10T) | _ => none
theorem goodB : EnvGood (envJ orcB) := goodJ fun f g h => by
 unfold orcB at h;split at h
 ·cases h; exact R10.room_meets
 ·cases h; exact more10 goodR10 why10_run
 ·cases h; exact more10 goodR10 can10_run
 ·cases h; exact more10 goodR10 seats10_run
 ·cases h; exact more10 goodR10 left10_run
 ·cases h; exact more10 goodR10 turn10_run
 ·cases h; exact more10 goodR10 best10_run
 ·cases h; exact more10 goodR10 gives10_run
 ·cases h; exact ask10_meets
 ·cases h
theorem awake10_run : awakeT.all (fun x => runsB (envJ orcB) 100000 7 x.1 x.2) = true := by kernel_rfl
theorem Closed.awake_meets : Meets Go.Proofs.Tryz.prog 6 (table [([], .lit (.bool true))]) := awake9_meets
theorem Closed.awake_meets7 : Meets Go.Proofs.Tryz.prog 7 (table [([], .lit (.bool true))]) := more10 goodB awake10_run
end Go.Am.YtgbbhdoobhdadaaGreatDoor
end
