/- Part 22. -/
import Derived.Test.YtgbbhdoobhdadaaGreatDoorTP1
import Derived.Test.YtgbbhdoobhdadaaGreatDoorTP21
section
namespace Go.Am.YtgbbhdoobhdadaaGreatDoor
open Go.Am Go.RowKit
def cmpT : List AV → Option AV := fun args => match args with
 | [.lit (.string a), .lit (.string b)] => some (.lit (.int .i64 (cmpS a.data.toList b.data.toList)))
 | _ => none
theorem cmp_run (a b : ByteArray) : run (envJ noOrc) 60 (.call 103 [.lit (.string a), .lit (.string b)]) (S0 (envJ noOrc) 103) = .ok (.ret (.lit (.int .i64 (cmpS a.data.toList b.data.toList))), S0 (envJ noOrc) 103) := by kernel_rfl
theorem cmp_meets : Meets Go.Proofs.Tryz.prog 103 cmpT := meets_of good0 fun args t h => by
 unfold cmpT at h;split at h
 ·cases h;exact ⟨60, _, _, cmp_run _ _, rfl⟩
 ·cases h
end Go.Am.YtgbbhdoobhdadaaGreatDoor
end
