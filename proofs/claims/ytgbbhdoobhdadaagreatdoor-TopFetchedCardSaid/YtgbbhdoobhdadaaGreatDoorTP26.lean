/- Part 26. -/
import Derived.Test.YtgbbhdoobhdadaaGreatDoorRows
import Derived.WalkKit
import Derived.ProofKit
import Derived.LaidMore
import Derived.OpenShut
import Derived.ChangeOld
import Derived.Stop.Joined
import Derived.SevenTiedAt
section
namespace Go.Proofs.YtgbbhdoobhdadaaGreatDoor.topFetched
open Go.ChangeShapes Go.WideShapes Go.ChangeAt Go.WideMaps Go.WideElems Go.RowKit
set_option linter.unusedVariables false
theorem own : ownKnob Tryz.prog.godebug = none := by kernel_rfl
theorem laid : laidOutB Tryz.prog = true := by kernel_rfl
theorem door_met (os : Os) (args : Array Value) : laidMetH Tryz.prog Rows.topFetchedRow.laid ((World.doorLaid Tryz.prog 400 os).forCall (fun _ _ => 0) ⟨#[], args, []⟩).memory :=
 laidMetH_of_parts3 (fuel := 8) (laidMet_of_run' 8 (by kernel_rfl) (by kernel_rfl)) (by kernel_rfl) (by kernel_rfl)
theorem and_b {a b : Bool} (h : a = true) (k : b = true) : (a && b) = true := by rw [h, k]; rfl
theorem p_a : (Rows.topFetchedRow.inPlace == Tryz.prog.inPlace 3) = true := by kernel_rfl
theorem p_b : (Rows.topFetchedRow.unfollowed == Tryz.prog.unfollowed 3) = true := by kernel_rfl
theorem p_c : (Rows.topFetchedRow.recurses == Tryz.prog.recurses 3) = true := by kernel_rfl
theorem p_d : (Rows.topFetchedRow.named == Tryz.prog.varsNamed 3) = true := by kernel_rfl
theorem p_e : (Rows.topFetchedRow.plainKeys == Tryz.prog.plainKeys) = true := by kernel_rfl
theorem p_f : (Rows.topFetchedRow.lifted == Tryz.prog.liftsFinal) = true := by kernel_rfl
theorem p_h : Tryz.prog.stopsHeard = true := by kernel_rfl
theorem p_i : mapsRowed Tryz.prog = true := by kernel_rfl
theorem p_m : Tryz.prog.mayEnter = true := by kernel_rfl
set_option maxRecDepth 100000 in
theorem closed_ : joinedFacts Tryz.prog 3 Tryz.f3 Rows.topFetchedSpec Rows.topFetchedRow = true := by
 unfold joinedFacts;exact and_b (and_b (and_b (and_b (and_b (and_b (and_b (and_b (and_b (and_b (and_b (and_b (and_b (and_b (and_b (and_b (and_b (and_b (and_b (and_b (and_b (and_b (and_b (and_b (and_b (and_b (and_b (and_b (and_b (and_b (and_b (by kernel_rfl) laid) p_i) (by kernel_rfl)) (by kernel_rfl)) (by kernel_rfl)) (by kernel_rfl)) (by kernel_rfl)) (by kernel_rfl)) p_a) p_b) p_c) p_d) (by kernel_rfl)) (by kernel_rfl)) (by kernel_rfl)) (by kernel_rfl)) (by kernel_rfl)) (by kernel_rfl)) (by kernel_rfl)) (by kernel_rfl)) (by kernel_rfl)) p_e) (by kernel_rfl)) p_h) p_m) p_f) (by kernel_rfl)) (by kernel_rfl)) (by kernel_rfl)) (by kernel_rfl)) (by kernel_rfl)
theorem plainArgs : (Tryz.f3.params.toList.all fun t => !Tryz.prog.wantsStandIn t) = true := by kernel_rfl
end Go.Proofs.YtgbbhdoobhdadaaGreatDoor.topFetched
end
