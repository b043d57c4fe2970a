/- Part 19. -/
import Derived.Test.YtiaolgbmbhldgaaGreatDoorMP13
import Derived.Test.YtiaolgbmbhldgaaGreatDoorMP17
import Derived.Test.YtiaolgbmbhldgaaGreatDoorMP15
import Derived.Test.YtiaolgbmbhldgaaGreatDoorMP18
import Derived.Test.YtiaolgbmbhldgaaGreatDoorRows
import Derived.Test.YtiaolgbmbhldgaaGreatDoorCards
import Derived.Test.YtiaolgbmbhldgaaGreatDoorTie
import Derived.WalkKit
import Derived.ProofKit
import Derived.LaidMore
import Derived.OpenShut
import Derived.ChangeOld
import Derived.Below
import Derived.Carry
import Derived.Stop.Joined
import Derived.SevenTiedAt
section
namespace Go.Am.YtiaolgbmbhldgaaGreatDoor
open Go.Am Go.RowKit
theorem shelfRound_calls (w : World) (qD : GS encStr) (qE : GS qN) (qF : GS qL) (m_Class : Int) (m_Number : Int) (m_Suffix : Str) (text : Str) (hs2 : text.length ≤ 9223372036854775807) (hg : GlobIn glbS w) (xs : List Value) (h : RelL (snapR w 0) [.agg [qD.v, qE.v, qF.v], .agg [iv (m_Class), iv (m_Number), sv m_Suffix], sv text] xs) :
  Calls Go.Proofs.Tryz.prog 8 xs.toArray w fun e w' => e = .returned (.bool true) ∧ Below w.heap.size w w' :=
 ((w_law_ShelfRound qD qE qF m_Class m_Number m_Suffix text true (ShelfRound_true _ _ _ _ _ _ _ hs2)).runsTo.calls (EL_good 2) w xs h hg).mono fun e w' ⟨x, he, hr, hb⟩ => ⟨by rw [he]; cases hr; rfl, hb⟩
end Go.Am.YtiaolgbmbhldgaaGreatDoor
namespace Go.Proofs.YtiaolgbmbhldgaaGreatDoor.shelfRound
open Go.ChangeShapes Go.WideShapes Go.ChangeAt Go.WideMaps Go.WideElems Go.RowKit Go.Am
set_option linter.unusedVariables false
set_option maxRecDepth 100000 in
theorem lifted (os : Os) (started : os.Started) (H : Type) (enc : TypeId × Value → H) :
  ReturnsInHanded {} Tryz.checked os 8 .any (fun w args => (Rows.shelfRoundSpec.pre enc Tryz.prog Tryz.f8 [] false w args ∧ laidMetH Tryz.prog Rows.shelfRoundRow.laid w) ∧ sizedMet enc Tryz.prog Tryz.f8 (OpenSpec.ofChange Rows.shelfRoundSpec) false w args)
   (Rows.shelfRoundSpec.post enc Tryz.prog Tryz.f8 false true false false) := by
 refine returnsInHanded_of_change_and (C := Tryz.checked) (X := fun w _ => laidMetH Tryz.prog Rows.shelfRoundRow.laid w) (fun _ _ _ hh h => h.of_heap hh) own started (by kernel_rfl) Tryz.func8
  (ChangeSpec.witness_shaped (enc := enc) (C := Tryz.checked) (os := os) (X := fun w _ => laidMetH Tryz.prog Rows.shelfRoundRow.laid w) false (World.doorLaid Tryz.prog 400 os) #[.agg #[.slice none 0 0, .slice none 0 0, .slice none 0 0], .agg #[.int .i64 0, .int .i64 0, .string ⟨#[]⟩], .string ⟨#[]⟩] 8 rfl (World.shaped_of_RefB (by kernel_rfl) (by kernel_rfl)) (by kernel_rfl) (by kernel_rfl) (by kernel_rfl) (door_met os _)) ?_
 intro W base args ds gs before hval0 hW _ _ hL _
 have hW' := hW;obtain ⟨p, q, hA0, hV, rfl, hfz, hnd⟩ := hW
 have hA : DataW.TrodAll enc Tryz.prog W 0 (fun _ => true) true Tryz.f8.params.toList args.toList ds p := hA0
 have hval : ∀ (j : Nat) t v, Tryz.f8.params[j]? = some t → args[j]? = some v → Value.okWide Tryz.prog W .any base t v := hval0;rw [Tryz.params8] at hA hval;obtain ⟨v0, v1, v2, d0, d1, d2, p0, p1, p2, rfl, rfl, rfl, h0, h1, h2⟩ := trodAll_three hA;obtain ⟨rfl, rfl⟩ := trodVars_none hV;obtain ⟨x0, r0⟩ := Go.Am.YtiaolgbmbhldgaaGreatDoor.li_26.arg Tryz.underlying26 (hval 0 26 v0 rfl rfl) h0;obtain ⟨x1, r1⟩ := Go.Am.YtiaolgbmbhldgaaGreatDoor.li_28.arg Tryz.underlying28 (hval 1 28 v1 rfl rfl) h1;obtain ⟨x2, r2⟩ := Lifts.argStr Tryz.underlying9 (hval 2 9 v2 rfl rfl) h2
 have hs2 := str_bound Tryz.underlying9 (hval 2 9 v2 rfl rfl) r2
 clear hA0 hval0
 refine (Go.Am.YtiaolgbmbhldgaaGreatDoor.shelfRound_calls W x0.1 x0.2.1 x0.2.2 x1.1 x1.2.1 x1.2.2 x2 hs2 (pow10_laid hL) [v0, v1, v2] (.cons r0 (.cons r1 (.cons r2 (.nil _))))).mono fun e W' ⟨he, bel⟩ => ?_
 subst he
 have hlt : ∀ x ∈ p0 ++ p1 ++ p2, x.block < W.heap.size := fun x hx => hW'.lt x (by simpa using hx)
 have k0 := Below.trod laid (by kernel_rfl) (of_decide_eq_true (by kernel_rfl)) h0 bel fun x hx => hlt x (by simp [hx])
 have k1 := Below.trod laid (by kernel_rfl) (of_decide_eq_true (by kernel_rfl)) h1 bel fun x hx => hlt x (by simp [hx])
 have k2 := Below.trod laid (by kernel_rfl) (of_decide_eq_true (by kernel_rfl)) h2 bel fun x hx => hlt x (by simp [hx])
 exact ⟨_, rfl, _, _, _, [], _, [], hW', trodAll_mk1 (shut_bool Tryz.underlying4 _), trodAll_mk3 k0 k1 k2, rfl, bel.frame _, fun h => by cases h⟩
theorem over : Rows.shelfRoundRow.holds Tryz.pinned (OpenSpec.ofChange Rows.shelfRoundSpec) :=
 OpenClaim.holds_of_wide 8 Tryz.f8 rfl rfl rfl rfl rfl rfl rfl ⟨rfl, rfl, rfl, rfl, rfl⟩ rfl rfl rfl rfl rfl (by kernel_rfl) Tryz.func8 closed_
  (of_decide_eq_true (by kernel_rfl)) (by unfold Func.isWrapper; first | (rw [if_pos (by decide +kernel)]; kernel_rfl) | (rw [if_neg (by decide +kernel)]; exact ⟨rfl, rfl⟩))
  (fun os started H enc _ => lifted os started H enc)
theorem proved : Rows.ShelfRoundCardSaid :=
  Claim7.holds_tied_plain_at .later [] [.data, .data, .data, .sentinel, .sentinel] true (true, "d6434d389cdd644462e4cc8f64b868306a1eced2cb0ec4c62e87c9ad41c3599b") true
    over (fun _ h => by cases h) (by kernel_rfl) (fun _ h => by cases h) shelfRound_row_tie rfl ⟨rfl, rfl⟩ (by kernel_rfl) rfl
    (fun f fn hf hfn => by
      obtain rfl : f = 8 := Option.some.inj ((show Tryz.prog.funcNamed "duodecimo/duodecimolaw09.ShelfRound" = some 8 by kernel_rfl).symm.trans hf) |>.symm
      obtain rfl : fn = Tryz.f8 := (Option.some.inj (Tryz.func8.symm.trans hfn)).symm
      exact ⟨by kernel_rfl, fun j t ht => show Tryz.prog.wantsStandIn t = false by simpa using List.all_eq_true.1 plainArgs t (Array.mem_toList_iff.2 (Array.mem_of_getElem? ht))⟩)
    (by kernel_rfl)
#print axioms proved
end Go.Proofs.YtiaolgbmbhldgaaGreatDoor.shelfRound
end
