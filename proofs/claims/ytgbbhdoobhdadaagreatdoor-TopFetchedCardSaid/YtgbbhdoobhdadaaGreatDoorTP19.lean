/- Part 19. -/
import Derived.Test.YtgbbhdoobhdadaaGreatDoorTP18
section
namespace Go.Am.YtgbbhdoobhdadaaGreatDoor
open Go.Am Go.RowKit
def effA : Nat → Option (List AV → St → Option (AV × St)) := fun f => match f with
 | 83 => some (roomDeed [best1, best2])
 | 32 => some fun _ _ => none
 | _ => none
noncomputable def envA : Env := { envJ orcL10 with eff := effA }
theorem envA_good : EnvGood envA :=
  { ok := { und := (okJ orcL10).und, info := (okJ orcL10).info, byt := (okJ orcL10).byt, zro := (okJ orcL10).zro, fn := (okJ orcL10).fn, ext := (okJ orcL10).ext }, orc := goodL10.orc, mixed := goodL10.mixed,
    body := fun f fn c he h1 h2 => by
      have hne : effJ f = none := by
        have he' : effA f = none := he
        unfold effA at he'
        unfold effJ
        split at he'
        · cases he'
        · cases he'
        · rename_i h83 h32
          split
          · exact absurd rfl h32
          · rfl
      exact goodL10.body f fn c hne h1 h2,
    eff := fun f g h => by
      have h' : effA f = some g := h
      unfold effA at h'
      split at h'
      · cases h'
        exact roomDeed_effs good0 fun x hx => by
          simp only [List.mem_cons, List.not_mem_nil, or_false] at hx
          rcases hx with rfl | rfl
          · exact RunsAnew.of best1_run
          · exact RunsAnew.of best2_run
      · cases h'
        intro r S w args xs v S' _ _ hv
        cases hv
      · cases h' }
def ask10T : List (List AV × AV) := [([R10.room1], .tuple [i 0, i 5, i 0])]
theorem ask10_run : ask10T.all (fun x => runsB envA 100000 39 x.1 x.2) = true := by kernel_rfl
theorem ask10_meets : Meets Go.Proofs.Tryz.prog 39 (table ask10T) := table_meets envA_good fun x hx => .of 100000 (List.all_eq_true.1 ask10_run x hx)
end Go.Am.YtgbbhdoobhdadaaGreatDoor
end
