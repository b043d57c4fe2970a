/- Part 9. -/
import Derived.Test.YtiaolgbmbhldgaaGreatDoorMP4
import Derived.Test.YtiaolgbmbhldgaaGreatDoorMP5
import Derived.Test.YtiaolgbmbhldgaaGreatDoorMP6
import Derived.Test.YtiaolgbmbhldgaaGreatDoorMP7
import Derived.Test.YtiaolgbmbhldgaaGreatDoorMP8
section
namespace Go.Am.YtiaolgbmbhldgaaGreatDoor
open Go.Am Go.RowKit
def orc3 : Orc := fun f => match f with
 | 16 => some (table checkT) | 22 => some (table beforeT) | 20 => some (table readT) | 18 => some (table writeT) | 28 => some (table spareT) | 25 => some (table astrayT)
 | 30 => some (table fitsT) | 32 => some (table putT) | 36 => some (table clearT) | 34 => some (table arrangeT) | 38 => some (table walkT) | _ => none
theorem good3 : EnvGood (envW orc3) := goodW fun f g h => by
 unfold orc3 at h;split at h
 ·cases h; exact more good0 check_run
 ·cases h; exact more good1 before_run
 ·cases h; exact more good1 read_run
 ·cases h; exact more good1 write_run
 ·cases h; exact more good1 spare_run
 ·cases h; exact more good1 astray_run
 ·cases h; exact more good1 fits_run
 ·cases h; exact more good1 put_run
 ·cases h; exact more good1 clear_run
 ·cases h; exact more good1 arrange_run
 ·cases h; exact more good2 walk_run
 ·cases h
def awakeT : List (List AV × AV) := [([], .lit (.bool true))]
theorem awake_run : awakeT.all (fun x => runsB (envW orc3) 100000 24 x.1 x.2) = true := by kernel_rfl
theorem awake_meets : Meets Go.Proofs.Tryz.prog 24 (table awakeT) := more good3 awake_run
def orc4 : Orc := fun f => match f with | 24 => some (table awakeT) | f => orc3 f
theorem good4 : EnvGood (envW orc4) := goodW fun f g h => by
 unfold orc4 at h;split at h
 ·cases h; exact awake_meets
 ·exact good3.orc _ g h
theorem known_run : runsB (envW orc4) 100000 7 [] (.lit (.bool true)) = true := by kernel_rfl
theorem known_runs : RunsTo (envW orc4) 7 [] (.lit (.bool true)) := .of 100000 known_run
theorem Closed.awake_meets : Meets Go.Proofs.Tryz.prog 24 (table [([], .lit (.bool true))]) := more good3 awake_run
end Go.Am.YtiaolgbmbhldgaaGreatDoor
end
