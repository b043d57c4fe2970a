/- Part 9. -/
import Derived.Test.YtgbbhdoobhdadaaGreatDoorTP4
import Derived.Test.YtgbbhdoobhdadaaGreatDoorTP5
import Derived.Test.YtgbbhdoobhdadaaGreatDoorTP6
import Derived.Test.YtgbbhdoobhdadaaGreatDoorTP7
import Derived.Test.YtgbbhdoobhdadaaGreatDoorTP8
section
namespace Go.Am.YtgbbhdoobhdadaaGreatDoor
open Go.Am Go.RowKit
def orc3 : Orc := fun f => match f with
 | 92 => some (table checkT) | 19 => some (table beforeT) | 21 => some (table readT) | 22 => some (table writeT) | 25 => some (table spareT) | 23 => some (table astrayT)
 | 26 => some (table fitsT) | 28 => some (table putT) | 29 => some (table clearT) | 30 => some (table arrangeT) | 9 => some (table walkT) | _ => none
theorem good3 : EnvGood (envJ orc3) := goodJ fun f g h => by
 unfold orc3 at h;split at h
 ·cases h; exact more good0 check_run
 ·cases h; exact more good1 before_run
 ·cases h; exact more good1 read_run
 ·cases h; exact more good1 write_run
 ·cases h; exact more good1 spare_run
 ·cases h; exact more good1 astray_run
 ·cases h; exact more good1 fits_run
 ·cases h; exact more good1 put_run
 ·cases h; exact more good1 clear_run
 ·cases h; exact more good1 arrange_run
 ·cases h; exact more good2 walk_run
 ·cases h
def awakeT : List (List AV × AV) := [([], .lit (.bool true))]
theorem awake_run : awakeT.all (fun x => runsB (envJ orc3) 100000 6 x.1 x.2) = true := by kernel_rfl
theorem awake9_meets : Meets Go.Proofs.Tryz.prog 6 (table awakeT) := more good3 awake_run
end Go.Am.YtgbbhdoobhdadaaGreatDoor
end
