/- Part 28. Proved here: the given statement of TopFetched (its card), for every room of both kinds and every load; there is no condition. -/
import Derived.Test.YtgbbhdoobhdadaaGreatDoorTP25
import Derived.Test.YtgbbhdoobhdadaaGreatDoorTP26
import Derived.Test.YtgbbhdoobhdadaaGreatDoorTP27
import Derived.Test.YtgbbhdoobhdadaaGreatDoorRows
import Derived.Test.YtgbbhdoobhdadaaGreatDoorCards
import Derived.Test.YtgbbhdoobhdadaaGreatDoorTie
import Derived.WalkKit
import Derived.ProofKit
import Derived.LaidMore
import Derived.OpenShut
import Derived.ChangeOld
import Derived.Below
import Derived.Carry
import Derived.Stop.Joined
import Derived.SevenTiedAt
section
namespace Go.Am.YtgbbhdoobhdadaaGreatDoor
open Go.Am Go.RowKit
theorem topFetched_calls (w : World) (s_Classes : GS encStr) (s_Shelves : GS qZ) (s_Books : GS qS) (qC : GS qJ) (r_Readers : GS qR) (r_Seats : GS qQ) (r_Requests : GS qK) (carry : UInt8) (xs : List Value) (h : RelL (snapR w 0) [.agg [s_Classes.v, s_Shelves.v, s_Books.v], .agg [qC.v, r_Readers.v, r_Seats.v, r_Requests.v], ivk .u8 ((carry.toNat : Int))] xs) :
  Calls Go.Proofs.Tryz.prog 3 xs.toArray w fun e w' => e = .returned (.bool true) ∧ Below w.heap.size w w' :=
 ((w_law_TopFetched s_Classes s_Shelves s_Books qC r_Readers r_Seats r_Requests carry true (TopFetched_true _ _ _ _ _ _ _ _)).runsTo.calls (EL_good 2) w xs h).mono fun e w' ⟨x, he, hr, hb⟩ => ⟨by rw [he]; cases hr; rfl, hb⟩
end Go.Am.YtgbbhdoobhdadaaGreatDoor
namespace Go.Proofs.YtgbbhdoobhdadaaGreatDoor.topFetched
open Go.ChangeShapes Go.WideShapes Go.ChangeAt Go.WideMaps Go.WideElems Go.RowKit Go.Am
set_option linter.unusedVariables false
set_option maxRecDepth 100000 in
theorem lifted (os : Os) (started : os.Started) (H : Type) (enc : TypeId × Value → H) :
  ReturnsInHanded {} Tryz.checked os 3 .any (fun w args => (Rows.topFetchedSpec.pre enc Tryz.prog Tryz.f3 [] false w args ∧ laidMetH Tryz.prog Rows.topFetchedRow.laid w) ∧ sizedMet enc Tryz.prog Tryz.f3 (OpenSpec.ofChange Rows.topFetchedSpec) false w args)
   (Rows.topFetchedSpec.post enc Tryz.prog Tryz.f3 false true false false) := by
 refine returnsInHanded_of_change_and (C := Tryz.checked) (X := fun w _ => laidMetH Tryz.prog Rows.topFetchedRow.laid w) (fun _ _ _ hh h => h.of_heap hh) own started (by kernel_rfl) Tryz.func3
  (ChangeSpec.witness_shaped (enc := enc) (C := Tryz.checked) (os := os) (X := fun w _ => laidMetH Tryz.prog Rows.topFetchedRow.laid w) false (World.doorLaid Tryz.prog 400 os) #[.agg #[.slice none 0 0, .slice none 0 0, .slice none 0 0], .agg #[.slice none 0 0, .slice none 0 0, .slice none 0 0, .slice none 0 0], .int .u8 0] 8 rfl (World.shaped_of_RefB (by kernel_rfl) (by kernel_rfl)) (by kernel_rfl) (by kernel_rfl) (by kernel_rfl) (door_met os _)) ?_
 intro W base args ds gs before hval0 hW _ _ hL _
 have hW' := hW;obtain ⟨p, q, hA0, hV, rfl, hfz, hnd⟩ := hW
 have hA : DataW.TrodAll enc Tryz.prog W 0 (fun _ => true) true Tryz.f3.params.toList args.toList ds p := hA0
 have hval : ∀ (j : Nat) t v, Tryz.f3.params[j]? = some t → args[j]? = some v → Value.okWide Tryz.prog W .any base t v := hval0;rw [Tryz.params3] at hA hval;obtain ⟨v0, v1, v2, d0, d1, d2, p0, p1, p2, rfl, rfl, rfl, h0, h1, h2⟩ := trodAll_three hA;obtain ⟨rfl, rfl⟩ := trodVars_none hV;obtain ⟨x0, r0⟩ := Go.Am.YtgbbhdoobhdadaaGreatDoor.li_26.arg Tryz.underlying26 (hval 0 26 v0 rfl rfl) h0;obtain ⟨x1, r1⟩ := Go.Am.YtgbbhdoobhdadaaGreatDoor.li_32.arg Tryz.underlying32 (hval 1 32 v1 rfl rfl) h1;obtain ⟨x2, r2⟩ := Go.Am.YtgbbhdoobhdadaaGreatDoor.li_5.argI Tryz.underlying5 (hval 2 5 v2 rfl rfl) h2
 clear hA0 hval0
 refine (Go.Am.YtgbbhdoobhdadaaGreatDoor.topFetched_calls W x0.1 x0.2.1 x0.2.2 x1.1 x1.2.1 x1.2.2.1 x1.2.2.2 x2 [v0, v1, v2] (.cons r0 (.cons r1 (.cons (r2 _ rfl) (.nil _))))).mono fun e W' ⟨he, bel⟩ => ?_
 subst he
 have hlt : ∀ x ∈ p0 ++ p1 ++ p2, x.block < W.heap.size := fun x hx => hW'.lt x (by simpa using hx)
 have k0 := Below.trod laid (by kernel_rfl) (of_decide_eq_true (by kernel_rfl)) h0 bel fun x hx => hlt x (by simp [hx])
 have k1 := Below.trod laid (by kernel_rfl) (of_decide_eq_true (by kernel_rfl)) h1 bel fun x hx => hlt x (by simp [hx])
 have k2 := Below.trod laid (by kernel_rfl) (of_decide_eq_true (by kernel_rfl)) h2 bel fun x hx => hlt x (by simp [hx])
 exact ⟨_, rfl, _, _, _, [], _, [], hW', trodAll_mk1 (shut_bool Tryz.underlying4 _), trodAll_mk3 k0 k1 k2, rfl, bel.frame _, fun h => by cases h⟩
theorem over : Rows.topFetchedRow.holds Tryz.pinned (OpenSpec.ofChange Rows.topFetchedSpec) :=
 OpenClaim.holds_of_wide 3 Tryz.f3 rfl rfl rfl rfl rfl rfl rfl ⟨rfl, rfl, rfl, rfl, rfl⟩ rfl rfl rfl rfl rfl (by kernel_rfl) Tryz.func3 closed_
  (of_decide_eq_true (by kernel_rfl)) (by unfold Func.isWrapper; first | (rw [if_pos (by decide +kernel)]; kernel_rfl) | (rw [if_neg (by decide +kernel)]; exact ⟨rfl, rfl⟩))
  (fun os started H enc _ => lifted os started H enc)
theorem proved : Rows.TopFetchedCardSaid :=
  Claim7.holds_tied_plain_at .later [] [.data, .data, .data, .sentinel, .sentinel] true (true, "7990592e441478f21e2ab4ddb175fbb522ad99a3ef7de819482cce488bbcecd8") true
    over (fun _ h => by cases h) (by kernel_rfl) (fun _ h => by cases h) topFetched_row_tie rfl ⟨rfl, rfl⟩ (by kernel_rfl) rfl
    (fun f fn hf hfn => by
      obtain rfl : f = 3 := Option.some.inj ((show Tryz.prog.funcNamed "duodecimo/duodecimotop.TopFetched" = some 3 by kernel_rfl).symm.trans hf) |>.symm
      obtain rfl : fn = Tryz.f3 := (Option.some.inj (Tryz.func3.symm.trans hfn)).symm
      exact ⟨by kernel_rfl, fun j t ht => show Tryz.prog.wantsStandIn t = false by simpa using List.all_eq_true.1 plainArgs t (Array.mem_toList_iff.2 (Array.mem_of_getElem? ht))⟩)
    (by kernel_rfl)
#print axioms proved
end Go.Proofs.YtgbbhdoobhdadaaGreatDoor.topFetched
end
