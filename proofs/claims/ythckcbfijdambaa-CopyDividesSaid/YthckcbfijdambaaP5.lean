/- Part 5. -/
import Derived.Test.YthckcbfijdambaaP4
import Derived.Test.YthckcbfijdambaaP2
import Derived.ChangeArms
import Derived.ChangeSlices
import Derived.Test.YthckcbfijdambaaRows
import Derived.ProofKit
import Derived.WalkKit
import Derived.OpenShut
import Derived.ChangeOld
import Derived.Below
import Derived.Carry
section
namespace Go.Am.Ythckcbfijdambaa
open Go.Am Go.RowKit
set_option linter.unusedVariables false
set_option linter.unusedSimpArgs false
set_option maxRecDepth 10000 in
theorem tf_c_Divided {k : Nat} (hk : 5 ≤ k) {C : List Thing} {b_Signed : Int} {v_b_Gatherings : AV} {b_Gatherings : List Gat} {v_one : AV} {one : List Item} {v_other : AV} {other : List Item} (h_b_Gatherings : Rdl C encG v_b_Gatherings b_Gatherings) (h_one : Rdl C encIt v_one one) (h_other : Rdl C encIt v_other other) {r : (List Int) × Int} (h : P_c_Divided b_Signed b_Gatherings one other = some r) :
    TF (EL k) 11 [.agg [iv (b_Signed), v_b_Gatherings], v_one, v_other] C (RepF (fun (w : AV) => .tuple [w, iv r.2]) (fun (w : AV) => ownL true w encI r.1 :: C)) := by
  unfold P_c_Divided at h
  refine TF.enterG (fn := Go.Proofs.Try.f11) rfl rfl rfl rfl rfl ?_
  refine T.seq ?_
  refine T.text rfl ?_
  refine TO.box (k := 2) (cells := [_, _]) rfl rfl rfl rfl rfl rfl rfl (fun b3 => ?_)
  refine TO.alloc (k := 1) (cells := [_]) rfl rfl rfl rfl rfl rfl rfl (fun b6 => ?_)
  refine TO.alloc (k := 1) (cells := [_]) rfl rfl rfl rfl rfl rfl rfl (fun b7 => ?_)
  refine TO.nil ?_
  refine T.seq ?_
  refine T.text rfl ?_
  refine TO.val rfl rfl rfl (Val.load_rows (p := 2) (c := [_, _]) rfl ⟨⟨_, rfl, rfl⟩, rfl, by decide⟩ rfl rfl rfl rfl) ?_
  refine TO.val rfl rfl rfl (Val.move rfl) ?_
  refine TO.fact (rdl_cellS h_one (memS (memS (memS (mem0))))) (fun hoone => ?_)
  refine TO.val rfl rfl rfl (Val.buildC (cs := [_, _, _]) (vs := [(_, _), (_, _)]) (ws := [(_, [_, _]), (_, [_])]) rfl rfl (CellsL.cons rfl (CellsL.cons hoone.1 CellsL.nil)) rfl) ?_
  obtain ⟨y25, hr25, h⟩ := andx_some h
  cases y25 with
  | inl y25 =>
    obtain ⟨y25_2, y25_3, y25_4⟩ := y25
    dsimp only at h
    obtain ⟨hkn25, h⟩ := chk_some h
    refine TO.callT (first := []) (cap := []) (vs := [.agg [iv (b_Signed), v_b_Gatherings, v_one]]) rfl rfl rfl rfl rfl rfl (orcN rfl) (tf_c_open (by first | decide | omega) (Rdl.mono h_b_Gatherings (memS (memS (memS (mem0))))) (Rdl.mono h_one (memS (memS (memS (mem0))))) hr25) ?_
    rintro _
    refine TO.things (hs' := .row b7 1 [iv (0)] :: .row b6 1 [nilS] :: .row b3 2 [iv (b_Signed), v_b_Gatherings] :: C) rfl ?_
    refine TO.val rfl rfl rfl (Val.move rfl) ?_
    refine TO.val rfl rfl rfl (Val.extract rfl rfl) ?_
    refine TO.val rfl rfl rfl (Val.extract rfl rfl) ?_
    refine TO.val rfl rfl rfl (Val.extract rfl rfl) ?_
    refine TO.val rfl rfl rfl (Val.extract rfl rfl) ?_
    refine TO.alloc (k := 1) (cells := [_]) rfl rfl rfl rfl rfl rfl rfl (fun b8 => ?_)
    refine TO.eff0 rfl rfl (Eff.store_row (p := 0) (cv := [_]) (cells' := [_]) rfl rfl rfl rfl rfl rfl rfl rfl (by first | rfl | simp [GS.one]) (by decide) rfl) ?_
    rintro _ rfl
    refine TO.things (hs' := .row b8 1 [.lit (.pointer none)] :: .row b7 1 [iv (0)] :: .row b6 1 [nilS] :: .row b3 2 [iv (b_Signed), v_b_Gatherings] :: C) rfl ?_
    refine TO.val rfl rfl rfl (Val.assign rfl) ?_
    refine TO.val rfl rfl rfl (Val.assign rfl) ?_
    refine TO.eff0 rfl rfl (Eff.store_row (p := 1) (cv := [_]) (cells' := [_]) rfl rfl rfl rfl rfl rfl rfl rfl (by first | rfl | simp [GS.one]) (by decide) rfl) ?_
    rintro _ rfl
    refine TO.things (hs' := .row b8 1 [.lit (.pointer none)] :: .row b7 1 [iv (y25_4)] :: .row b6 1 [nilS] :: .row b3 2 [iv (b_Signed), v_b_Gatherings] :: C) rfl ?_
    refine TO.nil ?_
    refine T.seq ?_
    refine T.seq ?_
    refine T.text rfl ?_
    refine TO.val rfl rfl rfl (Val.load_row (p := 1) rfl ⟨_, rfl, rfl⟩ rfl rfl rfl) ?_
    obtain ⟨c31, hc31⟩ : ∃ c : Bool, c = decide (¬ y25_4 = 0) := ⟨_, rfl⟩
    refine TO.val rfl rfl rfl (Val.neq hc31 rfl rfl) ?_
    refine TO.nil ?_
    obtain rfl : c31 = true := hc31.trans (decide_eq_true hkn25)
    refine T.condT (fun a ha => ha.ev (.tmp 31) _ rfl) ?_
    refine T.seq ?_
    refine T.drawE (l1 := [0]) (l2 := [1, 2]) (by kernel_rfl) (by kernel_rfl) ?_
    refine TD1.read rfl rfl rfl rfl (Val.load_row (p := 1) rfl ⟨_, rfl, rfl⟩ rfl rfl rfl) ?_
    refine TD1.over (fun v => sameC_refl v) (all_cons (⟨_, rfl, (Val.load_row (p := 1) rfl ⟨_, rfl, rfl⟩ rfl rfl rfl)⟩) all_nil) ?_
    refine TD2.heavy (fun v => sameC_refl v) rfl (by decide) rfl rfl (OpS.eff (Eff.store_row (p := 2) (cv := [_]) (cells' := [_]) rfl rfl rfl rfl rfl rfl rfl rfl (by first | rfl | simp [GS.one]) (by decide) rfl)) ?_
    rintro _ _ rfl
    refine ⟨(all_cons (.inr ⟨_, rfl, (Val.load_row (p := 1) rfl ⟨_, rfl, rfl⟩ rfl rfl rfl)⟩) all_nil), all_nil, ?_⟩
    refine TD2.things (hs' := .row b8 1 [.lit (.pointer none)] :: .row b7 1 [iv (y25_4)] :: .row b6 1 [nilS] :: .row b3 2 [iv (b_Signed), v_b_Gatherings] :: C) rfl ?_
    refine TD2.heavy (fun v => sameC_refl v) rfl (by decide) rfl rfl (OpS.eff (Eff.store_row (p := 1) (cv := [_]) (cells' := [_]) rfl rfl rfl rfl rfl rfl rfl rfl (by first | rfl | simp [GS.one]) (by decide) rfl)) ?_
    rintro _ _ rfl
    refine ⟨(all_cons (.inl (by kernel_rfl)) all_nil), all_nil, ?_⟩
    refine TD2.things (hs' := .row b8 1 [.lit (.pointer none)] :: .row b7 1 [iv (y25_4)] :: .row b6 1 [nilS] :: .row b3 2 [iv (b_Signed), v_b_Gatherings] :: C) rfl ?_
    refine TD2.nil ?_
    refine T.nilown (u := encI.u) ?_
    refine T.ret ?_
    cases h
    exact ⟨rfl, _, rfl, [_, _], ⟨⟨_, rfl, LoadR.row (p := 3) rfl ⟨_, rfl, rfl⟩ rfl rfl⟩, ⟨⟨_, rfl, LoadR.row (p := 2) rfl ⟨_, rfl, rfl⟩ rfl rfl⟩, trivial⟩⟩, ⟨nilS, rfl, (.pick (p := 0) rfl (.drop (.drop (.drop (.drop .refl)))))⟩⟩
  | inr y25 =>
    obtain ⟨y25_2, y25_3, y25_4, y25_5, y25_6, y25_7⟩ := y25
    dsimp only at h
    obtain ⟨hkn25, h⟩ := chk_some h
    refine TO.callT (first := []) (cap := []) (vs := [.agg [iv (b_Signed), v_b_Gatherings, v_one]]) rfl rfl rfl rfl rfl rfl (orcN rfl) (tf_c_open (by first | decide | omega) (Rdl.mono h_b_Gatherings (memS (memS (memS (mem0))))) (Rdl.mono h_one (memS (memS (memS (mem0))))) hr25) ?_
    rintro ⟨w25, w25_2⟩
    refine TO.things (hs' := .row w25 5 [iv (y25_2), v_b_Gatherings, v_one, y25_3.v, w25_2] :: ownL true w25_2 encI y25_4 :: .row b7 1 [iv (0)] :: .row b6 1 [nilS] :: .row b3 2 [iv (b_Signed), v_b_Gatherings] :: C) rfl ?_
    refine TO.val rfl rfl rfl (Val.move rfl) ?_
    refine TO.val rfl rfl rfl (Val.extract rfl rfl) ?_
    refine TO.val rfl rfl rfl (Val.extract rfl rfl) ?_
    refine TO.val rfl rfl rfl (Val.extract rfl rfl) ?_
    refine TO.val rfl rfl rfl (Val.extract rfl rfl) ?_
    refine TO.alloc (k := 1) (cells := [_]) rfl rfl rfl rfl rfl rfl rfl (fun b8 => ?_)
    refine TO.eff0 rfl rfl (Eff.store_row (p := 0) (cv := [_]) (cells' := [_]) rfl rfl rfl rfl rfl rfl rfl rfl (by first | rfl | simp [GS.one]) (by decide) rfl) ?_
    rintro _ rfl
    refine TO.things (hs' := .row b8 1 [.ptr w25 0 5] :: .row w25 5 [iv (y25_2), v_b_Gatherings, v_one, y25_3.v, w25_2] :: ownL true w25_2 encI y25_4 :: .row b7 1 [iv (0)] :: .row b6 1 [nilS] :: .row b3 2 [iv (b_Signed), v_b_Gatherings] :: C) rfl ?_
    refine TO.val rfl rfl rfl (Val.assign rfl) ?_
    refine TO.val rfl rfl rfl (Val.assign rfl) ?_
    refine TO.eff0 rfl rfl (Eff.store_row (p := 3) (cv := [_]) (cells' := [_]) rfl rfl rfl rfl rfl rfl rfl rfl (by first | rfl | simp [GS.one]) (by decide) rfl) ?_
    rintro _ rfl
    refine TO.things (hs' := .row b8 1 [.ptr w25 0 5] :: .row w25 5 [iv (y25_2), v_b_Gatherings, v_one, y25_3.v, w25_2] :: ownL true w25_2 encI y25_4 :: .row b7 1 [iv (y25_7)] :: .row b6 1 [nilS] :: .row b3 2 [iv (b_Signed), v_b_Gatherings] :: C) rfl ?_
    refine TO.nil ?_
    refine T.seq ?_
    refine T.seq ?_
    refine T.text rfl ?_
    refine TO.val rfl rfl rfl (Val.load_row (p := 3) rfl ⟨_, rfl, rfl⟩ rfl rfl rfl) ?_
    obtain ⟨c31, hc31⟩ : ∃ c : Bool, c = decide (¬ y25_7 = 0) := ⟨_, rfl⟩
    refine TO.val rfl rfl rfl (Val.neq hc31 rfl rfl) ?_
    refine TO.nil ?_
    obtain rfl : c31 = false := hc31.trans (decide_eq_false (fun x => x hkn25))
    refine T.condF (fun a ha => ha.ev (.tmp 31) _ rfl) ?_
    refine T.skip ?_
    refine T.seq ?_
    refine T.text rfl ?_
    refine TO.val rfl rfl rfl (Val.load_rows (p := 5) (c := [_, _]) rfl ⟨⟨_, rfl, rfl⟩, rfl, by decide⟩ rfl rfl rfl rfl) ?_
    refine TO.val rfl rfl rfl (Val.move rfl) ?_
    refine TO.fact (rdl_cellS h_other (memS (memS (memS (memS (memS (memS (mem0)))))))) (fun hoother => ?_)
    refine TO.val rfl rfl rfl (Val.buildC (cs := [_, _, _]) (vs := [(_, _), (_, _)]) (ws := [(_, [_, _]), (_, [_])]) rfl rfl (CellsL.cons rfl (CellsL.cons hoother.1 CellsL.nil)) rfl) ?_
    obtain ⟨y37, hr37, h⟩ := andx_some h
    cases y37 with
    | inl y37 =>
      obtain ⟨y37_2, y37_3, y37_4⟩ := y37
      dsimp only at h
      obtain ⟨hkn37, h⟩ := chk_some h
      refine TO.callT (first := []) (cap := []) (vs := [.agg [iv (b_Signed), v_b_Gatherings, v_other]]) rfl rfl rfl rfl rfl rfl (orcN rfl) (tf_c_open (by first | decide | omega) (Rdl.mono h_b_Gatherings (memS (memS (memS (memS (memS (memS (mem0)))))))) (Rdl.mono h_other (memS (memS (memS (memS (memS (memS (mem0)))))))) hr37) ?_
      rintro _
      refine TO.things (hs' := .row b8 1 [.ptr w25 0 5] :: .row w25 5 [iv (y25_2), v_b_Gatherings, v_one, y25_3.v, w25_2] :: ownL true w25_2 encI y25_4 :: .row b7 1 [iv (y25_7)] :: .row b6 1 [nilS] :: .row b3 2 [iv (b_Signed), v_b_Gatherings] :: C) rfl ?_
      refine TO.val rfl rfl rfl (Val.move rfl) ?_
      refine TO.val rfl rfl rfl (Val.extract rfl rfl) ?_
      refine TO.val rfl rfl rfl (Val.extract rfl rfl) ?_
      refine TO.val rfl rfl rfl (Val.extract rfl rfl) ?_
      refine TO.val rfl rfl rfl (Val.extract rfl rfl) ?_
      refine TO.alloc (k := 1) (cells := [_]) rfl rfl rfl rfl rfl rfl rfl (fun b11 => ?_)
      refine TO.eff0 rfl rfl (Eff.store_row (p := 0) (cv := [_]) (cells' := [_]) rfl rfl rfl rfl rfl rfl rfl rfl (by first | rfl | simp [GS.one]) (by decide) rfl) ?_
      rintro _ rfl
      refine TO.things (hs' := .row b11 1 [.lit (.pointer none)] :: .row b8 1 [.ptr w25 0 5] :: .row w25 5 [iv (y25_2), v_b_Gatherings, v_one, y25_3.v, w25_2] :: ownL true w25_2 encI y25_4 :: .row b7 1 [iv (y25_7)] :: .row b6 1 [nilS] :: .row b3 2 [iv (b_Signed), v_b_Gatherings] :: C) rfl ?_
      refine TO.val rfl rfl rfl (Val.assign rfl) ?_
      refine TO.val rfl rfl rfl (Val.assign rfl) ?_
      refine TO.eff0 rfl rfl (Eff.store_row (p := 4) (cv := [_]) (cells' := [_]) rfl rfl rfl rfl rfl rfl rfl rfl (by first | rfl | simp [GS.one]) (by decide) rfl) ?_
      rintro _ rfl
      refine TO.things (hs' := .row b11 1 [.lit (.pointer none)] :: .row b8 1 [.ptr w25 0 5] :: .row w25 5 [iv (y25_2), v_b_Gatherings, v_one, y25_3.v, w25_2] :: ownL true w25_2 encI y25_4 :: .row b7 1 [iv (y37_4)] :: .row b6 1 [nilS] :: .row b3 2 [iv (b_Signed), v_b_Gatherings] :: C) rfl ?_
      refine TO.nil ?_
      refine T.seq ?_
      refine T.seq ?_
      refine T.text rfl ?_
      refine TO.val rfl rfl rfl (Val.load_row (p := 4) rfl ⟨_, rfl, rfl⟩ rfl rfl rfl) ?_
      obtain ⟨c43, hc43⟩ : ∃ c : Bool, c = decide (¬ y37_4 = 0) := ⟨_, rfl⟩
      refine TO.val rfl rfl rfl (Val.neq hc43 rfl rfl) ?_
      refine TO.nil ?_
      obtain rfl : c43 = true := hc43.trans (decide_eq_true hkn37)
      refine T.condT (fun a ha => ha.ev (.tmp 43) _ rfl) ?_
      refine T.seq ?_
      refine T.drawE (l1 := [0]) (l2 := [1, 2]) (by kernel_rfl) (by kernel_rfl) ?_
      refine TD1.read rfl rfl rfl rfl (Val.load_row (p := 4) rfl ⟨_, rfl, rfl⟩ rfl rfl rfl) ?_
      refine TD1.over (fun v => sameC_refl v) (all_cons (⟨_, rfl, (Val.load_row (p := 4) rfl ⟨_, rfl, rfl⟩ rfl rfl rfl)⟩) all_nil) ?_
      refine TD2.heavy (fun v => sameC_refl v) rfl (by decide) rfl rfl (OpS.eff (Eff.store_row (p := 5) (cv := [_]) (cells' := [_]) rfl rfl rfl rfl rfl rfl rfl rfl (by first | rfl | simp [GS.one]) (by decide) rfl)) ?_
      rintro _ _ rfl
      refine ⟨(all_cons (.inr ⟨_, rfl, (Val.load_row (p := 4) rfl ⟨_, rfl, rfl⟩ rfl rfl rfl)⟩) all_nil), all_nil, ?_⟩
      refine TD2.things (hs' := .row b11 1 [.lit (.pointer none)] :: .row b8 1 [.ptr w25 0 5] :: .row w25 5 [iv (y25_2), v_b_Gatherings, v_one, y25_3.v, w25_2] :: ownL true w25_2 encI y25_4 :: .row b7 1 [iv (y37_4)] :: .row b6 1 [nilS] :: .row b3 2 [iv (b_Signed), v_b_Gatherings] :: C) rfl ?_
      refine TD2.heavy (fun v => sameC_refl v) rfl (by decide) rfl rfl (OpS.eff (Eff.store_row (p := 4) (cv := [_]) (cells' := [_]) rfl rfl rfl rfl rfl rfl rfl rfl (by first | rfl | simp [GS.one]) (by decide) rfl)) ?_
      rintro _ _ rfl
      refine ⟨(all_cons (.inl (by kernel_rfl)) all_nil), all_nil, ?_⟩
      refine TD2.things (hs' := .row b11 1 [.lit (.pointer none)] :: .row b8 1 [.ptr w25 0 5] :: .row w25 5 [iv (y25_2), v_b_Gatherings, v_one, y25_3.v, w25_2] :: ownL true w25_2 encI y25_4 :: .row b7 1 [iv (y37_4)] :: .row b6 1 [nilS] :: .row b3 2 [iv (b_Signed), v_b_Gatherings] :: C) rfl ?_
      refine TD2.nil ?_
      refine T.nilown (u := encI.u) ?_
      refine T.ret ?_
      cases h
      exact ⟨rfl, _, rfl, [_, _], ⟨⟨_, rfl, LoadR.row (p := 6) rfl ⟨_, rfl, rfl⟩ rfl rfl⟩, ⟨⟨_, rfl, LoadR.row (p := 5) rfl ⟨_, rfl, rfl⟩ rfl rfl⟩, trivial⟩⟩, ⟨nilS, rfl, (.pick (p := 0) rfl (.drop (.drop (.drop (.drop (.drop (.drop (.drop .refl))))))))⟩⟩
    | inr y37 =>
      obtain ⟨y37_2, y37_3, y37_4, y37_5, y37_6, y37_7⟩ := y37
      dsimp only at h
      obtain ⟨hkn37, h⟩ := chk_some h
      refine TO.callT (first := []) (cap := []) (vs := [.agg [iv (b_Signed), v_b_Gatherings, v_other]]) rfl rfl rfl rfl rfl rfl (orcN rfl) (tf_c_open (by first | decide | omega) (Rdl.mono h_b_Gatherings (memS (memS (memS (memS (memS (memS (mem0)))))))) (Rdl.mono h_other (memS (memS (memS (memS (memS (memS (mem0)))))))) hr37) ?_
      rintro ⟨w37, w37_2⟩
      refine TO.things (hs' := .row w37 5 [iv (y37_2), v_b_Gatherings, v_other, y37_3.v, w37_2] :: ownL true w37_2 encI y37_4 :: .row b8 1 [.ptr w25 0 5] :: .row w25 5 [iv (y25_2), v_b_Gatherings, v_one, y25_3.v, w25_2] :: ownL true w25_2 encI y25_4 :: .row b7 1 [iv (y25_7)] :: .row b6 1 [nilS] :: .row b3 2 [iv (b_Signed), v_b_Gatherings] :: C) rfl ?_
      refine TO.val rfl rfl rfl (Val.move rfl) ?_
      refine TO.val rfl rfl rfl (Val.extract rfl rfl) ?_
      refine TO.val rfl rfl rfl (Val.extract rfl rfl) ?_
      refine TO.val rfl rfl rfl (Val.extract rfl rfl) ?_
      refine TO.val rfl rfl rfl (Val.extract rfl rfl) ?_
      refine TO.alloc (k := 1) (cells := [_]) rfl rfl rfl rfl rfl rfl rfl (fun b11 => ?_)
      refine TO.eff0 rfl rfl (Eff.store_row (p := 0) (cv := [_]) (cells' := [_]) rfl rfl rfl rfl rfl rfl rfl rfl (by first | rfl | simp [GS.one]) (by decide) rfl) ?_
      rintro _ rfl
      refine TO.things (hs' := .row b11 1 [.ptr w37 0 5] :: .row w37 5 [iv (y37_2), v_b_Gatherings, v_other, y37_3.v, w37_2] :: ownL true w37_2 encI y37_4 :: .row b8 1 [.ptr w25 0 5] :: .row w25 5 [iv (y25_2), v_b_Gatherings, v_one, y25_3.v, w25_2] :: ownL true w25_2 encI y25_4 :: .row b7 1 [iv (y25_7)] :: .row b6 1 [nilS] :: .row b3 2 [iv (b_Signed), v_b_Gatherings] :: C) rfl ?_
      refine TO.val rfl rfl rfl (Val.assign rfl) ?_
      refine TO.val rfl rfl rfl (Val.assign rfl) ?_
      refine TO.eff0 rfl rfl (Eff.store_row (p := 6) (cv := [_]) (cells' := [_]) rfl rfl rfl rfl rfl rfl rfl rfl (by first | rfl | simp [GS.one]) (by decide) rfl) ?_
      rintro _ rfl
      refine TO.things (hs' := .row b11 1 [.ptr w37 0 5] :: .row w37 5 [iv (y37_2), v_b_Gatherings, v_other, y37_3.v, w37_2] :: ownL true w37_2 encI y37_4 :: .row b8 1 [.ptr w25 0 5] :: .row w25 5 [iv (y25_2), v_b_Gatherings, v_one, y25_3.v, w25_2] :: ownL true w25_2 encI y25_4 :: .row b7 1 [iv (y37_7)] :: .row b6 1 [nilS] :: .row b3 2 [iv (b_Signed), v_b_Gatherings] :: C) rfl ?_
      refine TO.nil ?_
      refine T.seq ?_
      refine T.seq ?_
      refine T.text rfl ?_
      refine TO.val rfl rfl rfl (Val.load_row (p := 6) rfl ⟨_, rfl, rfl⟩ rfl rfl rfl) ?_
      obtain ⟨c43, hc43⟩ : ∃ c : Bool, c = decide (¬ y37_7 = 0) := ⟨_, rfl⟩
      refine TO.val rfl rfl rfl (Val.neq hc43 rfl rfl) ?_
      refine TO.nil ?_
      obtain rfl : c43 = false := hc43.trans (decide_eq_false (fun x => x hkn37))
      refine T.condF (fun a ha => ha.ev (.tmp 43) _ rfl) ?_
      refine T.skip ?_
      refine T.seq ?_
      refine T.text rfl ?_
      refine TO.val rfl rfl rfl (Val.assign rfl) ?_
      refine TO.nil ?_
      show T _ _ _ _ _ _
      apply T.join (r := r) (W := Unit) (fun (j : Unit) (w : Unit) => ⟨[], [(6, .ptr b6 0 1), (7, .ptr b7 0 1), (8, .ptr b8 0 1), (11, .ptr b11 0 1)], .row b11 1 [.ptr w37 0 5] :: .row w37 5 [iv (y37_2), v_b_Gatherings, v_other, y37_3.v, w37_2] :: ownL true w37_2 encI y37_4 :: .row b8 1 [.ptr w25 0 5] :: .row w25 5 [iv (y25_2), v_b_Gatherings, v_one, y25_3.v, w25_2] :: ownL true w25_2 encI y25_4 :: .row b7 1 [iv (y37_7)] :: .row b6 1 [nilS] :: .row b3 2 [iv (b_Signed), v_b_Gatherings] :: C⟩) h
      · intro j h
        show T _ _ _ _ _ _
        apply T.joinA (r := j) (W := Unit) (fun (j : Bool) (w : Unit) => ⟨[], [(6, .ptr b6 0 1), (7, .ptr b7 0 1), (8, .ptr b8 0 1), (11, .ptr b11 0 1), (52, bv j)], .row b11 1 [.ptr w37 0 5] :: .row w37 5 [iv (y37_2), v_b_Gatherings, v_other, y37_3.v, w37_2] :: ownL true w37_2 encI y37_4 :: .row b8 1 [.ptr w25 0 5] :: .row w25 5 [iv (y25_2), v_b_Gatherings, v_one, y25_3.v, w25_2] :: ownL true w25_2 encI y25_4 :: .row b7 1 [iv (y37_7)] :: .row b6 1 [nilS] :: .row b3 2 [iv (b_Signed), v_b_Gatherings] :: C⟩) h
        · intro j h
          refine T.text rfl ?_
          refine TO.val rfl rfl rfl (Val.move rfl) ?_
          refine TO.val rfl rfl rfl (Val.move rfl) ?_
          refine TO.callIn rfl rfl rfl rfl rfl rfl (orcN rfl) ?_
          refine TF.enter (fn := Go.Proofs.Try.f38) rfl rfl rfl rfl rfl ?_
          refine T.seq ?_
          refine T.text rfl ?_
          refine TO.val rfl rfl rfl (Val.assign rfl) ?_
          refine TO.nil ?_
          refine T.seq ?_
          refine T.text rfl ?_
          refine TO.val rfl rfl rfl (Val.move rfl) ?_
          refine TO.val rfl rfl rfl (Val.move rfl) ?_
          refine TO.callJ (W := Unit) (fun (j : Int) (w : Unit) => iv (j)) (fun (j : Int) (w : Unit) => .row b11 1 [.ptr w37 0 5] :: .row w37 5 [iv (y37_2), v_b_Gatherings, v_other, y37_3.v, w37_2] :: ownL true w37_2 encI y37_4 :: .row b8 1 [.ptr w25 0 5] :: .row w25 5 [iv (y25_2), v_b_Gatherings, v_one, y25_3.v, w25_2] :: ownL true w25_2 encI y25_4 :: .row b7 1 [iv (y37_7)] :: .row b6 1 [nilS] :: .row b3 2 [iv (b_Signed), v_b_Gatherings] :: C) h rfl rfl rfl rfl rfl rfl (orcN rfl) ?_ ?_
          · intro j h
            refine TF.enter (fn := Go.Proofs.Try.f60) rfl rfl rfl rfl rfl ?_
            refine T.seq ?_
            refine T.text rfl ?_
            refine TO.val rfl rfl rfl (Val.assign rfl) ?_
            refine TO.nil ?_
            show T _ _ _ _ _ _
            apply T.join (r := j) (W := Unit) (fun (j : Unit) (w : Unit) => ⟨[], [], .row b11 1 [.ptr w37 0 5] :: .row w37 5 [iv (y37_2), v_b_Gatherings, v_other, y37_3.v, w37_2] :: ownL true w37_2 encI y37_4 :: .row b8 1 [.ptr w25 0 5] :: .row w25 5 [iv (y25_2), v_b_Gatherings, v_one, y25_3.v, w25_2] :: ownL true w25_2 encI y25_4 :: .row b7 1 [iv (y37_7)] :: .row b6 1 [nilS] :: .row b3 2 [iv (b_Signed), v_b_Gatherings] :: C⟩) h
            · intro j h
              refine T.seq ?_
              refine T.text rfl ?_
              refine TO.val rfl rfl rfl (Val.move rfl) ?_
              refine TO.val rfl rfl rfl (Val.len_l h_one (memS (memS (memS (memS (memS (memS (memS (memS (memS (mem0)))))))))) rfl rfl) ?_
              refine TO.val rfl rfl rfl (Val.move rfl) ?_
              refine TO.nil ?_
              refine T.block ?_
              show T _ _ _ _ _ _
              apply T.iter (r := j) (W := Unit) (fun (j : Int) (w : Unit) => ⟨[], [(0, v_one), (1, .func 37 [] []), (7, iv ((one.length : Int))), (8, iv (j))], .row b11 1 [.ptr w37 0 5] :: .row w37 5 [iv (y37_2), v_b_Gatherings, v_other, y37_3.v, w37_2] :: ownL true w37_2 encI y37_4 :: .row b8 1 [.ptr w25 0 5] :: .row w25 5 [iv (y25_2), v_b_Gatherings, v_one, y25_3.v, w25_2] :: ownL true w25_2 encI y25_4 :: .row b7 1 [iv (y37_7)] :: .row b6 1 [nilS] :: .row b3 2 [iv (b_Signed), v_b_Gatherings] :: C⟩) (w0 := ()) h
              · exact ⟨rfl, (keep_cons rfl (keep_cons rfl (keep_cons rfl (keep_cons rfl keep_nil)))), (.pick (p := 0) rfl (.pick (p := 0) rfl (.pick (p := 0) rfl (.pick (p := 0) rfl (.pick (p := 0) rfl (.pick (p := 0) rfl (.pick (p := 0) rfl (.pick (p := 0) rfl (.pick (p := 0) rfl .refl)))))))))⟩
              rintro x8 _ a h
              unfold P_c_Divided_L1 at h
              refine T.at (s' := ⟨[], [(0, v_one), (1, .func 37 [] []), (7, iv ((one.length : Int))), (8, iv (x8))], .row b11 1 [.ptr w37 0 5] :: .row w37 5 [iv (y37_2), v_b_Gatherings, v_other, y37_3.v, w37_2] :: ownL true w37_2 encI y37_4 :: .row b8 1 [.ptr w25 0 5] :: .row w25 5 [iv (y25_2), v_b_Gatherings, v_one, y25_3.v, w25_2] :: ownL true w25_2 encI y25_4 :: .row b7 1 [iv (y37_7)] :: .row b6 1 [nilS] :: .row b3 2 [iv (b_Signed), v_b_Gatherings] :: C⟩) rfl ?_
              refine T.seq ?_
              refine T.text rfl ?_
              obtain ⟨c9, hc9⟩ : ∃ c : Bool, c = decide (x8 < (one.length : Int)) := ⟨_, rfl⟩
              refine TO.val rfl rfl rfl (Val.lss hc9 rfl rfl) ?_
              refine TO.nil ?_
              refine T.seq ?_
              cases c9 with
              | true =>
                replace hc9 := of_decide_eq_true hc9.symm
                rw [if_pos hc9] at h
                refine T.condT (fun a ha => ha.ev (.tmp 9) _ rfl) ?_
                refine T.skip ?_
                refine T.seq ?_
                refine T.block ?_
                refine T.seq ?_
                refine T.text rfl ?_
                refine TO.val rfl rfl rfl (Val.move rfl) ?_
                refine TO.val rfl rfl rfl (Val.assign rfl) ?_
                refine TO.nil ?_
                refine T.seq ?_
                refine T.text rfl ?_
                refine TO.val rfl rfl rfl (Val.move rfl) ?_
                refine TO.val rfl rfl rfl (Val.move rfl) ?_
                refine TO.val rfl rfl rfl (Val.move rfl) ?_
                obtain ⟨a14, hia14, ea14, h⟩ := el_some h
                refine TO.fact (rdl_at h_one (memS (memS (memS (memS (memS (memS (memS (memS (memS (mem0)))))))))) hia14 ea14) (fun hp => ?_)
                obtain ⟨pa14, hpa14, hva14⟩ := hp
                refine TO.val rfl rfl rfl (hva14 ⟨rfl, rfl⟩ rfl rfl) ?_
                refine TO.val rfl rfl rfl (Val.load_es (c := [_]) hpa14 (memS (memS (memS (memS (memS (memS (memS (memS (memS (mem0)))))))))) ⟨⟨_, rfl, rfl⟩, rfl, by decide⟩ rfl rfl rfl) ?_
                refine TO.callIn rfl rfl rfl rfl rfl rfl (orcN rfl) ?_
                refine TF.enter (fn := Go.Proofs.Try.f37) rfl rfl rfl rfl rfl ?_
                refine T.seq ?_
                refine T.text rfl ?_
                refine TO.box (k := 1) (cells := [_]) rfl rfl rfl rfl rfl rfl rfl (fun b1 => ?_)
                refine TO.val rfl rfl rfl (Val.assign rfl) ?_
                refine TO.nil ?_
                refine T.seq ?_
                refine T.text rfl ?_
                refine TO.val rfl rfl rfl (Val.faddr_ptr (fo := 0) rfl rfl rfl) ?_
                refine TO.val rfl rfl rfl (Val.load_row (p := 0) rfl ⟨_, rfl, rfl⟩ rfl rfl rfl) ?_
                refine TO.val rfl rfl rfl (Val.len_gs rfl rfl) ?_
                obtain ⟨c6, hc6⟩ : ∃ c : Bool, c = decide ((a14.could.l.length : Int) > 1) := ⟨_, rfl⟩
                refine TO.val rfl rfl rfl (Val.gtr hc6 rfl rfl) ?_
                refine TO.val rfl rfl rfl (Val.assign rfl) ?_
                refine TO.nil ?_
                refine T.ret ?_
                refine ⟨rfl, _, rfl, ?_⟩
                refine TO.nil ?_
                cases c6 with
                | true =>
                  replace hc6 := of_decide_eq_true hc6.symm
                  rw [if_pos hc6] at h
                  refine T.condT (fun a ha => ha.ev (.tmp 16) _ rfl) ?_
                  refine T.seq ?_
                  refine T.text rfl ?_
                  refine TO.val rfl rfl rfl (Val.move rfl) ?_
                  refine TO.val rfl rfl rfl (Val.assign rfl) ?_
                  refine TO.nil ?_
                  refine T.ret ?_
                  cases h
                  exact ⟨ret_ne, ⟨ret_ne, ⟨rfl, _, rfl, ⟨(), rfl, (.pick (p := 1) rfl (.pick (p := 1) rfl (.pick (p := 1) rfl (.pick (p := 1) rfl (.pick (p := 1) rfl (.pick (p := 1) rfl (.pick (p := 1) rfl (.pick (p := 1) rfl (.pick (p := 1) rfl (.drop .refl))))))))))⟩⟩⟩⟩
                | false =>
                  replace hc6 := of_decide_eq_false hc6.symm
                  rw [if_neg hc6] at h
                  refine T.condF (fun a ha => ha.ev (.tmp 16) _ rfl) ?_
                  refine T.skip ?_
                  refine T.text rfl ?_
                  obtain ⟨hk18, h⟩ := chk_some h
                  refine TO.val rfl rfl rfl (Val.add rfl rfl hk18) ?_
                  refine TO.val rfl rfl rfl (Val.move rfl) ?_
                  refine TO.nil ?_
                  cases h
                  exact ⟨rfl, (), ⟨rfl, (keep_cons rfl (keep_cons rfl (keep_cons rfl (keep_cons rfl keep_nil)))), (.pick (p := 1) rfl (.pick (p := 1) rfl (.pick (p := 1) rfl (.pick (p := 1) rfl (.pick (p := 1) rfl (.pick (p := 1) rfl (.pick (p := 1) rfl (.pick (p := 1) rfl (.pick (p := 1) rfl (.drop .refl))))))))))⟩⟩
              | false =>
                replace hc9 := of_decide_eq_false hc9.symm
                rw [if_neg hc9] at h
                refine T.condF (fun a ha => ha.ev (.tmp 9) _ rfl) ?_
                refine T.exit ?_
                cases h
                exact ⟨ex_ne, ⟨rfl, (), ⟨rfl, keep_nil, (.pick (p := 0) rfl (.pick (p := 0) rfl (.pick (p := 0) rfl (.pick (p := 0) rfl (.pick (p := 0) rfl (.pick (p := 0) rfl (.pick (p := 0) rfl (.pick (p := 0) rfl (.pick (p := 0) rfl .refl)))))))))⟩⟩⟩
            · rintro _ _ h
              skip
              refine T.at (s' := ⟨[], [], .row b11 1 [.ptr w37 0 5] :: .row w37 5 [iv (y37_2), v_b_Gatherings, v_other, y37_3.v, w37_2] :: ownL true w37_2 encI y37_4 :: .row b8 1 [.ptr w25 0 5] :: .row w25 5 [iv (y25_2), v_b_Gatherings, v_one, y25_3.v, w25_2] :: ownL true w25_2 encI y25_4 :: .row b7 1 [iv (y37_7)] :: .row b6 1 [nilS] :: .row b3 2 [iv (b_Signed), v_b_Gatherings] :: C⟩) rfl ?_
              refine T.seq ?_
              refine T.text rfl ?_
              refine TO.val rfl rfl rfl (Val.assign rfl) ?_
              refine TO.nil ?_
              refine T.ret ?_
              cases h
              exact ⟨rfl, _, rfl, ⟨(), rfl, (.pick (p := 0) rfl (.pick (p := 0) rfl (.pick (p := 0) rfl (.pick (p := 0) rfl (.pick (p := 0) rfl (.pick (p := 0) rfl (.pick (p := 0) rfl (.pick (p := 0) rfl (.pick (p := 0) rfl .refl)))))))))⟩⟩
          · rintro y7 _ h
            refine TO.things (hs' := .row b11 1 [.ptr w37 0 5] :: .row w37 5 [iv (y37_2), v_b_Gatherings, v_other, y37_3.v, w37_2] :: ownL true w37_2 encI y37_4 :: .row b8 1 [.ptr w25 0 5] :: .row w25 5 [iv (y25_2), v_b_Gatherings, v_one, y25_3.v, w25_2] :: ownL true w25_2 encI y25_4 :: .row b7 1 [iv (y37_7)] :: .row b6 1 [nilS] :: .row b3 2 [iv (b_Signed), v_b_Gatherings] :: C) rfl ?_
            obtain ⟨c8, hc8⟩ : ∃ c : Bool, c = decide (y7 ≥ 0) := ⟨_, rfl⟩
            refine TO.val rfl rfl rfl (Val.geq hc8 rfl rfl) ?_
            refine TO.val rfl rfl rfl (Val.assign rfl) ?_
            refine TO.nil ?_
            refine T.ret ?_
            refine ⟨rfl, _, rfl, ?_⟩
            refine TO.val rfl rfl rfl (Val.move rfl) ?_
            cases c8 with
            | true =>
              replace hc8 := of_decide_eq_true hc8.symm
              rw [if_pos hc8] at h
              refine TO.off rfl rfl rfl ?_
              refine TO.off rfl rfl rfl ?_
              refine TO.off rfl rfl rfl ?_
              refine TO.val rfl rfl rfl (Val.pick rfl rfl rfl) ?_
              refine TO.nil ?_
              cases h
              exact ⟨rfl, (), ⟨rfl, (keep_cons rfl (keep_cons rfl (keep_cons rfl (keep_cons rfl (keep_cons rfl keep_nil))))), (.pick (p := 0) rfl (.pick (p := 0) rfl (.pick (p := 0) rfl (.pick (p := 0) rfl (.pick (p := 0) rfl (.pick (p := 0) rfl (.pick (p := 0) rfl (.pick (p := 0) rfl (.pick (p := 0) rfl .refl)))))))))⟩⟩
            | false =>
              replace hc8 := of_decide_eq_false hc8.symm
              rw [if_neg hc8] at h
              refine TO.val rfl rfl rfl (Val.move rfl) ?_
              refine TO.val rfl rfl rfl (Val.move rfl) ?_
              refine TO.callIn rfl rfl rfl rfl rfl rfl (orcN rfl) ?_
              refine TF.enter (fn := Go.Proofs.Try.f38) rfl rfl rfl rfl rfl ?_
              refine T.seq ?_
              refine T.text rfl ?_
              refine TO.val rfl rfl rfl (Val.assign rfl) ?_
              refine TO.nil ?_
              refine T.seq ?_
              refine T.text rfl ?_
              refine TO.val rfl rfl rfl (Val.move rfl) ?_
              refine TO.val rfl rfl rfl (Val.move rfl) ?_
              refine TO.callJ (W := Unit) (fun (j : Int) (w : Unit) => iv (j)) (fun (j : Int) (w : Unit) => .row b11 1 [.ptr w37 0 5] :: .row w37 5 [iv (y37_2), v_b_Gatherings, v_other, y37_3.v, w37_2] :: ownL true w37_2 encI y37_4 :: .row b8 1 [.ptr w25 0 5] :: .row w25 5 [iv (y25_2), v_b_Gatherings, v_one, y25_3.v, w25_2] :: ownL true w25_2 encI y25_4 :: .row b7 1 [iv (y37_7)] :: .row b6 1 [nilS] :: .row b3 2 [iv (b_Signed), v_b_Gatherings] :: C) h rfl rfl rfl rfl rfl rfl (orcN rfl) ?_ ?_
              · intro j h
                refine TF.enter (fn := Go.Proofs.Try.f60) rfl rfl rfl rfl rfl ?_
                refine T.seq ?_
                refine T.text rfl ?_
                refine TO.val rfl rfl rfl (Val.assign rfl) ?_
                refine TO.nil ?_
                show T _ _ _ _ _ _
                apply T.join (r := j) (W := Unit) (fun (j : Unit) (w : Unit) => ⟨[], [], .row b11 1 [.ptr w37 0 5] :: .row w37 5 [iv (y37_2), v_b_Gatherings, v_other, y37_3.v, w37_2] :: ownL true w37_2 encI y37_4 :: .row b8 1 [.ptr w25 0 5] :: .row w25 5 [iv (y25_2), v_b_Gatherings, v_one, y25_3.v, w25_2] :: ownL true w25_2 encI y25_4 :: .row b7 1 [iv (y37_7)] :: .row b6 1 [nilS] :: .row b3 2 [iv (b_Signed), v_b_Gatherings] :: C⟩) h
                · intro j h
                  refine T.seq ?_
                  refine T.text rfl ?_
                  refine TO.val rfl rfl rfl (Val.move rfl) ?_
                  refine TO.val rfl rfl rfl (Val.len_l h_other (memS (memS (memS (memS (memS (memS (memS (memS (memS (mem0)))))))))) rfl rfl) ?_
                  refine TO.val rfl rfl rfl (Val.move rfl) ?_
                  refine TO.nil ?_
                  refine T.block ?_
                  show T _ _ _ _ _ _
                  apply T.iter (r := j) (W := Unit) (fun (j : Int) (w : Unit) => ⟨[], [(0, v_other), (1, .func 37 [] []), (7, iv ((other.length : Int))), (8, iv (j))], .row b11 1 [.ptr w37 0 5] :: .row w37 5 [iv (y37_2), v_b_Gatherings, v_other, y37_3.v, w37_2] :: ownL true w37_2 encI y37_4 :: .row b8 1 [.ptr w25 0 5] :: .row w25 5 [iv (y25_2), v_b_Gatherings, v_one, y25_3.v, w25_2] :: ownL true w25_2 encI y25_4 :: .row b7 1 [iv (y37_7)] :: .row b6 1 [nilS] :: .row b3 2 [iv (b_Signed), v_b_Gatherings] :: C⟩) (w0 := ()) h
                  · exact ⟨rfl, (keep_cons rfl (keep_cons rfl (keep_cons rfl (keep_cons rfl keep_nil)))), (.pick (p := 0) rfl (.pick (p := 0) rfl (.pick (p := 0) rfl (.pick (p := 0) rfl (.pick (p := 0) rfl (.pick (p := 0) rfl (.pick (p := 0) rfl (.pick (p := 0) rfl (.pick (p := 0) rfl .refl)))))))))⟩
                  rintro x8 _ a h
                  unfold P_c_Divided_L2 at h
                  refine T.at (s' := ⟨[], [(0, v_other), (1, .func 37 [] []), (7, iv ((other.length : Int))), (8, iv (x8))], .row b11 1 [.ptr w37 0 5] :: .row w37 5 [iv (y37_2), v_b_Gatherings, v_other, y37_3.v, w37_2] :: ownL true w37_2 encI y37_4 :: .row b8 1 [.ptr w25 0 5] :: .row w25 5 [iv (y25_2), v_b_Gatherings, v_one, y25_3.v, w25_2] :: ownL true w25_2 encI y25_4 :: .row b7 1 [iv (y37_7)] :: .row b6 1 [nilS] :: .row b3 2 [iv (b_Signed), v_b_Gatherings] :: C⟩) rfl ?_
                  refine T.seq ?_
                  refine T.text rfl ?_
                  obtain ⟨c9, hc9⟩ : ∃ c : Bool, c = decide (x8 < (other.length : Int)) := ⟨_, rfl⟩
                  refine TO.val rfl rfl rfl (Val.lss hc9 rfl rfl) ?_
                  refine TO.nil ?_
                  refine T.seq ?_
                  cases c9 with
                  | true =>
                    replace hc9 := of_decide_eq_true hc9.symm
                    rw [if_pos hc9] at h
                    refine T.condT (fun a ha => ha.ev (.tmp 9) _ rfl) ?_
                    refine T.skip ?_
                    refine T.seq ?_
                    refine T.block ?_
                    refine T.seq ?_
                    refine T.text rfl ?_
                    refine TO.val rfl rfl rfl (Val.move rfl) ?_
                    refine TO.val rfl rfl rfl (Val.assign rfl) ?_
                    refine TO.nil ?_
                    refine T.seq ?_
                    refine T.text rfl ?_
                    refine TO.val rfl rfl rfl (Val.move rfl) ?_
                    refine TO.val rfl rfl rfl (Val.move rfl) ?_
                    refine TO.val rfl rfl rfl (Val.move rfl) ?_
                    obtain ⟨a14, hia14, ea14, h⟩ := el_some h
                    refine TO.fact (rdl_at h_other (memS (memS (memS (memS (memS (memS (memS (memS (memS (mem0)))))))))) hia14 ea14) (fun hp => ?_)
                    obtain ⟨pa14, hpa14, hva14⟩ := hp
                    refine TO.val rfl rfl rfl (hva14 ⟨rfl, rfl⟩ rfl rfl) ?_
                    refine TO.val rfl rfl rfl (Val.load_es (c := [_]) hpa14 (memS (memS (memS (memS (memS (memS (memS (memS (memS (mem0)))))))))) ⟨⟨_, rfl, rfl⟩, rfl, by decide⟩ rfl rfl rfl) ?_
                    refine TO.callIn rfl rfl rfl rfl rfl rfl (orcN rfl) ?_
                    refine TF.enter (fn := Go.Proofs.Try.f37) rfl rfl rfl rfl rfl ?_
                    refine T.seq ?_
                    refine T.text rfl ?_
                    refine TO.box (k := 1) (cells := [_]) rfl rfl rfl rfl rfl rfl rfl (fun b1 => ?_)
                    refine TO.val rfl rfl rfl (Val.assign rfl) ?_
                    refine TO.nil ?_
                    refine T.seq ?_
                    refine T.text rfl ?_
                    refine TO.val rfl rfl rfl (Val.faddr_ptr (fo := 0) rfl rfl rfl) ?_
                    refine TO.val rfl rfl rfl (Val.load_row (p := 0) rfl ⟨_, rfl, rfl⟩ rfl rfl rfl) ?_
                    refine TO.val rfl rfl rfl (Val.len_gs rfl rfl) ?_
                    obtain ⟨c6, hc6⟩ : ∃ c : Bool, c = decide ((a14.could.l.length : Int) > 1) := ⟨_, rfl⟩
                    refine TO.val rfl rfl rfl (Val.gtr hc6 rfl rfl) ?_
                    refine TO.val rfl rfl rfl (Val.assign rfl) ?_
                    refine TO.nil ?_
                    refine T.ret ?_
                    refine ⟨rfl, _, rfl, ?_⟩
                    refine TO.nil ?_
                    cases c6 with
                    | true =>
                      replace hc6 := of_decide_eq_true hc6.symm
                      rw [if_pos hc6] at h
                      refine T.condT (fun a ha => ha.ev (.tmp 16) _ rfl) ?_
                      refine T.seq ?_
                      refine T.text rfl ?_
                      refine TO.val rfl rfl rfl (Val.move rfl) ?_
                      refine TO.val rfl rfl rfl (Val.assign rfl) ?_
                      refine TO.nil ?_
                      refine T.ret ?_
                      cases h
                      exact ⟨ret_ne, ⟨ret_ne, ⟨rfl, _, rfl, ⟨(), rfl, (.pick (p := 1) rfl (.pick (p := 1) rfl (.pick (p := 1) rfl (.pick (p := 1) rfl (.pick (p := 1) rfl (.pick (p := 1) rfl (.pick (p := 1) rfl (.pick (p := 1) rfl (.pick (p := 1) rfl (.drop .refl))))))))))⟩⟩⟩⟩
                    | false =>
                      replace hc6 := of_decide_eq_false hc6.symm
                      rw [if_neg hc6] at h
                      refine T.condF (fun a ha => ha.ev (.tmp 16) _ rfl) ?_
                      refine T.skip ?_
                      refine T.text rfl ?_
                      obtain ⟨hk18, h⟩ := chk_some h
                      refine TO.val rfl rfl rfl (Val.add rfl rfl hk18) ?_
                      refine TO.val rfl rfl rfl (Val.move rfl) ?_
                      refine TO.nil ?_
                      cases h
                      exact ⟨rfl, (), ⟨rfl, (keep_cons rfl (keep_cons rfl (keep_cons rfl (keep_cons rfl keep_nil)))), (.pick (p := 1) rfl (.pick (p := 1) rfl (.pick (p := 1) rfl (.pick (p := 1) rfl (.pick (p := 1) rfl (.pick (p := 1) rfl (.pick (p := 1) rfl (.pick (p := 1) rfl (.pick (p := 1) rfl (.drop .refl))))))))))⟩⟩
                  | false =>
                    replace hc9 := of_decide_eq_false hc9.symm
                    rw [if_neg hc9] at h
                    refine T.condF (fun a ha => ha.ev (.tmp 9) _ rfl) ?_
                    refine T.exit ?_
                    cases h
                    exact ⟨ex_ne, ⟨rfl, (), ⟨rfl, keep_nil, (.pick (p := 0) rfl (.pick (p := 0) rfl (.pick (p := 0) rfl (.pick (p := 0) rfl (.pick (p := 0) rfl (.pick (p := 0) rfl (.pick (p := 0) rfl (.pick (p := 0) rfl (.pick (p := 0) rfl .refl)))))))))⟩⟩⟩
                · rintro _ _ h
                  skip
                  refine T.at (s' := ⟨[], [], .row b11 1 [.ptr w37 0 5] :: .row w37 5 [iv (y37_2), v_b_Gatherings, v_other, y37_3.v, w37_2] :: ownL true w37_2 encI y37_4 :: .row b8 1 [.ptr w25 0 5] :: .row w25 5 [iv (y25_2), v_b_Gatherings, v_one, y25_3.v, w25_2] :: ownL true w25_2 encI y25_4 :: .row b7 1 [iv (y37_7)] :: .row b6 1 [nilS] :: .row b3 2 [iv (b_Signed), v_b_Gatherings] :: C⟩) rfl ?_
                  refine T.seq ?_
                  refine T.text rfl ?_
                  refine TO.val rfl rfl rfl (Val.assign rfl) ?_
                  refine TO.nil ?_
                  refine T.ret ?_
                  cases h
                  exact ⟨rfl, _, rfl, ⟨(), rfl, (.pick (p := 0) rfl (.pick (p := 0) rfl (.pick (p := 0) rfl (.pick (p := 0) rfl (.pick (p := 0) rfl (.pick (p := 0) rfl (.pick (p := 0) rfl (.pick (p := 0) rfl (.pick (p := 0) rfl .refl)))))))))⟩⟩
              · rintro y7_2 _ h
                refine TO.things (hs' := .row b11 1 [.ptr w37 0 5] :: .row w37 5 [iv (y37_2), v_b_Gatherings, v_other, y37_3.v, w37_2] :: ownL true w37_2 encI y37_4 :: .row b8 1 [.ptr w25 0 5] :: .row w25 5 [iv (y25_2), v_b_Gatherings, v_one, y25_3.v, w25_2] :: ownL true w25_2 encI y25_4 :: .row b7 1 [iv (y37_7)] :: .row b6 1 [nilS] :: .row b3 2 [iv (b_Signed), v_b_Gatherings] :: C) rfl ?_
                obtain ⟨c8_2, hc8_2⟩ : ∃ c : Bool, c = decide (y7_2 ≥ 0) := ⟨_, rfl⟩
                refine TO.val rfl rfl rfl (Val.geq hc8_2 rfl rfl) ?_
                refine TO.val rfl rfl rfl (Val.assign rfl) ?_
                refine TO.nil ?_
                refine T.ret ?_
                refine ⟨rfl, _, rfl, ?_⟩
                refine TO.val rfl rfl rfl (Val.pick rfl rfl rfl) ?_
                refine TO.nil ?_
                subst hc8_2
                cases h
                exact ⟨rfl, (), ⟨rfl, (keep_cons rfl (keep_cons rfl (keep_cons rfl (keep_cons rfl (keep_cons rfl keep_nil))))), (.pick (p := 0) rfl (.pick (p := 0) rfl (.pick (p := 0) rfl (.pick (p := 0) rfl (.pick (p := 0) rfl (.pick (p := 0) rfl (.pick (p := 0) rfl (.pick (p := 0) rfl (.pick (p := 0) rfl .refl)))))))))⟩⟩
        · rintro x52 _ h
          skip
          refine T.at (s' := ⟨[], [(6, .ptr b6 0 1), (7, .ptr b7 0 1), (8, .ptr b8 0 1), (11, .ptr b11 0 1), (52, bv x52)], .row b11 1 [.ptr w37 0 5] :: .row w37 5 [iv (y37_2), v_b_Gatherings, v_other, y37_3.v, w37_2] :: ownL true w37_2 encI y37_4 :: .row b8 1 [.ptr w25 0 5] :: .row w25 5 [iv (y25_2), v_b_Gatherings, v_one, y25_3.v, w25_2] :: ownL true w25_2 encI y25_4 :: .row b7 1 [iv (y37_7)] :: .row b6 1 [nilS] :: .row b3 2 [iv (b_Signed), v_b_Gatherings] :: C⟩) rfl ?_
          cases x52 with
          | true =>
            rw [if_pos rfl] at h
            refine T.condT (fun a ha => ha.ev (.tmp 52) _ rfl) ?_
            refine T.seq ?_
            refine T.text rfl ?_
            refine TO.eff0 rfl rfl (Eff.store_row (p := 7) (cv := [_]) (cells' := [_]) rfl rfl rfl rfl rfl rfl rfl rfl (by first | rfl | simp [GS.one]) (by decide) rfl) ?_
            rintro _ rfl
            refine TO.things (hs' := .row b11 1 [.ptr w37 0 5] :: .row w37 5 [iv (y37_2), v_b_Gatherings, v_other, y37_3.v, w37_2] :: ownL true w37_2 encI y37_4 :: .row b8 1 [.ptr w25 0 5] :: .row w25 5 [iv (y25_2), v_b_Gatherings, v_one, y25_3.v, w25_2] :: ownL true w25_2 encI y25_4 :: .row b7 1 [iv (y37_7)] :: .row b6 1 [nilS] :: .row b3 2 [iv (b_Signed), v_b_Gatherings] :: C) rfl ?_
            refine TO.eff0 rfl rfl (Eff.store_row (p := 6) (cv := [_]) (cells' := [_]) rfl rfl rfl rfl rfl rfl rfl rfl (by first | rfl | simp [GS.one]) (by decide) rfl) ?_
            rintro _ rfl
            refine TO.things (hs' := .row b11 1 [.ptr w37 0 5] :: .row w37 5 [iv (y37_2), v_b_Gatherings, v_other, y37_3.v, w37_2] :: ownL true w37_2 encI y37_4 :: .row b8 1 [.ptr w25 0 5] :: .row w25 5 [iv (y25_2), v_b_Gatherings, v_one, y25_3.v, w25_2] :: ownL true w25_2 encI y25_4 :: .row b7 1 [iv (2)] :: .row b6 1 [nilS] :: .row b3 2 [iv (b_Signed), v_b_Gatherings] :: C) rfl ?_
            refine TO.nil ?_
            refine T.nilown (u := encI.u) ?_
            refine T.ret ?_
            cases h
            exact ⟨ret_ne, ⟨rfl, _, rfl, [_, _], ⟨⟨_, rfl, LoadR.row (p := 8) rfl ⟨_, rfl, rfl⟩ rfl rfl⟩, ⟨⟨_, rfl, LoadR.row (p := 7) rfl ⟨_, rfl, rfl⟩ rfl rfl⟩, trivial⟩⟩, ⟨nilS, rfl, (.pick (p := 0) rfl (.drop (.drop (.drop (.drop (.drop (.drop (.drop (.drop (.drop .refl))))))))))⟩⟩⟩
          | false =>
            rw [if_neg Bool.false_ne_true] at h
            refine T.condF (fun a ha => ha.ev (.tmp 52) _ rfl) ?_
            refine T.skip ?_
            cases h
            exact ⟨rfl, (), ⟨rfl, (keep_cons rfl (keep_cons rfl (keep_cons rfl (keep_cons rfl keep_nil)))), (.pick (p := 0) rfl (.pick (p := 0) rfl (.pick (p := 0) rfl (.pick (p := 0) rfl (.pick (p := 0) rfl (.pick (p := 0) rfl (.pick (p := 0) rfl (.pick (p := 0) rfl (.pick (p := 0) rfl .refl)))))))))⟩⟩
      · rintro _ _ h
        skip
        refine T.at (s' := ⟨[], [(6, .ptr b6 0 1), (7, .ptr b7 0 1), (8, .ptr b8 0 1), (11, .ptr b11 0 1)], .row b11 1 [.ptr w37 0 5] :: .row w37 5 [iv (y37_2), v_b_Gatherings, v_other, y37_3.v, w37_2] :: ownL true w37_2 encI y37_4 :: .row b8 1 [.ptr w25 0 5] :: .row w25 5 [iv (y25_2), v_b_Gatherings, v_one, y25_3.v, w25_2] :: ownL true w25_2 encI y25_4 :: .row b7 1 [iv (y37_7)] :: .row b6 1 [nilS] :: .row b3 2 [iv (b_Signed), v_b_Gatherings] :: C⟩) rfl ?_
        show T _ _ _ _ _ _
        apply T.join (r := r) (W := Nat × AV) (fun (j : (List Int)) (w : Nat × AV) => ⟨[w.1], [(6, .ptr b6 0 1), (7, .ptr b7 0 1)], .obj w.1 (.dfr true) :: ownL true w.2 encI j :: .row b7 1 [iv (y37_7)] :: .row b6 1 [w.2] :: .row b11 1 [.ptr w37 0 5] :: .row w37 5 [iv (y37_2), v_b_Gatherings, v_other, y37_3.v, w37_2] :: ownL true w37_2 encI y37_4 :: .row b8 1 [.ptr w25 0 5] :: .row w25 5 [iv (y25_2), v_b_Gatherings, v_one, y25_3.v, w25_2] :: ownL true w25_2 encI y25_4 :: .row b3 2 [iv (b_Signed), v_b_Gatherings] :: C⟩) h
        · intro j h
          refine T.seq ?_
          refine T.text rfl ?_
          refine TO.val rfl rfl rfl (Val.load_row (p := 3) rfl ⟨_, rfl, rfl⟩ rfl rfl rfl) ?_
          refine TO.callIn rfl rfl rfl rfl rfl rfl (orcN rfl) ?_
          refine TF.enter (fn := Go.Proofs.Try.f39) rfl rfl rfl rfl rfl ?_
          refine T.seq ?_
          refine T.text rfl ?_
          refine TO.box (k := 1) (cells := [_]) rfl rfl rfl rfl rfl rfl rfl (fun b1 => ?_)
          refine TO.val rfl rfl rfl (Val.assign rfl) ?_
          refine TO.nil ?_
          refine T.seq ?_
          refine T.text rfl ?_
          refine TO.val rfl rfl rfl (Val.makeFunc rfl rfl) ?_
          refine TO.val rfl rfl rfl (Val.assign rfl) ?_
          refine TO.nil ?_
          refine T.ret ?_
          refine ⟨rfl, _, rfl, ?_⟩
          refine TO.nil ?_
          refine T.block ?_
          refine T.nilown (u := encI.u) ?_
          obtain ⟨hkR3, h⟩ := chk_some h
          show T _ _ _ _ _ _
          apply T.rangeP (r := j) (W := AV) (w0 := nilS) ArgT (fun (j : (List Int)) (w : AV) => [ownL true w encI j, .row b7 1 [iv (y37_7)], .row b6 1 [w]]) (.row b1 1 [.ptr w25 0 5] :: .row b11 1 [.ptr w37 0 5] :: .row w37 5 [iv (y37_2), v_b_Gatherings, v_other, y37_3.v, w37_2] :: ownL true w37_2 encI y37_4 :: .row b8 1 [.ptr w25 0 5] :: .row w25 5 [iv (y25_2), v_b_Gatherings, v_one, y25_3.v, w25_2] :: ownL true w25_2 encI y25_4 :: .row b3 2 [iv (b_Signed), v_b_Gatherings] :: C) h
          · rfl
          · rfl
          · rfl
          · exact (.pick (p := 0) rfl (.pick (p := 7) rfl (.pick (p := 7) rfl (.pick (p := 0) rfl (.pick (p := 0) rfl (.pick (p := 0) rfl (.pick (p := 0) rfl (.pick (p := 0) rfl (.pick (p := 0) rfl (.pick (p := 0) rfl (.pick (p := 0) rfl .refl)))))))))))
          · exact tr_yields (List.mem_of_getElem? (i := 0) rfl) (List.mem_of_getElem? (i := 5) rfl) (Rdl.mono h_one (memS (memS (memS (memS (memS (memS (memS (memS (mem0)))))))))) hkR3
          · rintro l3 d cut v18 t vs G F3 ans hmem harg hD hG h
            unfold P_c_Divided_L3 at h
            obtain ⟨v_t, rfl, rfl⟩ := harg
            have h_t : Rdl F3 encI v_t t := .inr ⟨false, hG _ (by simp)⟩
            have hCF : ∀ x ∈ C, x ∈ F3 := fun x hx => hD x (memS (memS (memS (memS (memS (memS (memS (memS (mem0)))))))) x hx)
            replace h_b_Gatherings := Rdl.mono h_b_Gatherings hCF
            replace h_one := Rdl.mono h_one hCF
            replace h_other := Rdl.mono h_other hCF
            have hu3_t12 : Rdl F3 encI w37_2 y37_4 := .inr ⟨true, (hD _ (List.mem_of_getElem? (i := 3) rfl))⟩
            have hu3_t7 : Rdl F3 encI w25_2 y25_4 := .inr ⟨true, (hD _ (List.mem_of_getElem? (i := 6) rfl))⟩
            have hu3_t11 : Thing.row w37 5 [iv (y37_2), v_b_Gatherings, v_other, y37_3.v, w37_2] ∈ F3 := (hD _ (List.mem_of_getElem? (i := 2) rfl))
            have hu3_t6 : Thing.row w25 5 [iv (y25_2), v_b_Gatherings, v_one, y25_3.v, w25_2] ∈ F3 := (hD _ (List.mem_of_getElem? (i := 5) rfl))
            have hu3_t1 : Thing.row b3 2 [iv (b_Signed), v_b_Gatherings] ∈ F3 := (hD _ (List.mem_of_getElem? (i := 7) rfl))
            have hu3_t17 : Thing.row b1 1 [.ptr w25 0 5] ∈ F3 := (hD _ (List.mem_of_getElem? (i := 0) rfl))
            have hu3_t13 : Thing.row b11 1 [.ptr w37 0 5] ∈ F3 := (hD _ (List.mem_of_getElem? (i := 1) rfl))
            have hu3_t8 : Thing.row b8 1 [.ptr w25 0 5] ∈ F3 := (hD _ (List.mem_of_getElem? (i := 4) rfl))
            refine ⟨_, rfl, fun LR3 LB3 hLB3 => ?_⟩
            refine T.things (hs' := LR3 :: ownL true v18 encI cut :: .row b7 1 [iv (y37_7)] :: .row b6 1 [v18] :: F3) rfl ?_
            refine T.text rfl ?_
            refine TO.alloc (k := 1) (cells := [_]) rfl rfl rfl rfl rfl rfl rfl (fun b15 => ?_)
            refine TO.fact (rdl_cellS h_t (memS (memS (memS (memS (memS (mem0))))))) (fun hot => ?_)
            refine TO.eff0 rfl rfl (Eff.store_row (p := 0) (cv := [_]) (cells' := [_]) rfl rfl rfl rfl rfl hot.1 rfl rfl (by first | rfl | simp [GS.one, hot.2]) (by decide) rfl) ?_
            rintro _ rfl
            refine TO.things (hs' := .row b15 1 [v_t] :: LR3 :: ownL true v18 encI cut :: .row b7 1 [iv (y37_7)] :: .row b6 1 [v18] :: F3) rfl ?_
            refine TO.nil ?_
            refine ⟨rfl, 1, rfl, ?_⟩
            refine T.things (hs' := .row b15 1 [v_t] :: LB3 :: ownL true v18 encI cut :: .row b7 1 [iv (y37_7)] :: .row b6 1 [v18] :: F3) rfl ?_
            refine T.block ?_
            refine T.seq ?_
            refine T.text rfl ?_
            refine TO.val rfl rfl rfl (Val.load_rowM hu3_t13 (memS (memS (memS (memS (memS (mem0)))))) ⟨_, rfl, rfl⟩ rfl rfl rfl) ?_
            refine TO.callIn rfl rfl rfl rfl rfl rfl (orcN rfl) ?_
            refine TF.enter (fn := Go.Proofs.Try.f39) rfl rfl rfl rfl rfl ?_
            refine T.seq ?_
            refine T.text rfl ?_
            refine TO.box (k := 1) (cells := [_]) rfl rfl rfl rfl rfl rfl rfl (fun b1_2 => ?_)
            refine TO.val rfl rfl rfl (Val.assign rfl) ?_
            refine TO.nil ?_
            refine T.seq ?_
            refine T.text rfl ?_
            refine TO.val rfl rfl rfl (Val.makeFunc rfl rfl) ?_
            refine TO.val rfl rfl rfl (Val.assign rfl) ?_
            refine TO.nil ?_
            refine T.ret ?_
            refine ⟨rfl, _, rfl, ?_⟩
            refine TO.nil ?_
            refine T.block ?_
            obtain ⟨hkR4, h⟩ := chk_some h
            show T _ _ _ _ _ _
            apply T.rangeP1 (p0 := 5) (r := ans) (W := AV) (w0 := v18) ArgT (fun (j : (List Int)) (w : AV) => [ownL true w encI j, .row b7 1 [iv (y37_7)], .row b6 1 [w]]) (.row b1_2 1 [.ptr w37 0 5] :: .row b15 1 [v_t] :: LB3 :: F3) h
            · exact (rfl : _ = some LB3)
            · exact hLB3
            · rfl
            · rfl
            · rfl
            · exact (.pick (p := 3) rfl (.pick (p := 3) rfl (.pick (p := 3) rfl (.pick (p := 0) rfl (.pick (p := 0) rfl (.pick (p := 0) rfl .refl))))))
            · exact tr_yields (List.mem_of_getElem? (i := 0) rfl) ((memS (memS (memS (mem0)))) _ hu3_t11) (Rdl.mono h_other (memS (memS (memS (mem0))))) hkR4
            · rintro l4 cut_2 v18_2 t_2 vs G F4 ans hmem harg hD hG h
              unfold P_c_Divided_L4 at h
              obtain ⟨v_t_2, rfl, rfl⟩ := harg
              have h_t_2 : Rdl F4 encI v_t_2 t_2 := .inr ⟨false, hG _ (by simp)⟩
              have hCF : ∀ x ∈ F3, x ∈ F4 := fun x hx => hD x (memS (memS (memS (mem0))) x hx)
              replace h_b_Gatherings := Rdl.mono h_b_Gatherings hCF
              replace h_one := Rdl.mono h_one hCF
              replace h_other := Rdl.mono h_other hCF
              replace hu3_t12 := Rdl.mono hu3_t12 hCF
              replace hu3_t7 := Rdl.mono hu3_t7 hCF
              replace hu3_t11 := hCF _ hu3_t11
              replace hu3_t6 := hCF _ hu3_t6
              replace hu3_t1 := hCF _ hu3_t1
              replace hu3_t17 := hCF _ hu3_t17
              replace hu3_t13 := hCF _ hu3_t13
              replace hu3_t8 := hCF _ hu3_t8
              replace h_t := Rdl.mono h_t hCF
              have hu4_t20 : Thing.row b1_2 1 [.ptr w37 0 5] ∈ F4 := (hD _ (List.mem_of_getElem? (i := 0) rfl))
              have hu4_t19 : Thing.row b15 1 [v_t] ∈ F4 := (hD _ (List.mem_of_getElem? (i := 1) rfl))
              refine ⟨_, rfl, fun LR4 LB4 hLB4 => ?_⟩
              refine T.things (hs' := LR4 :: ownL true v18_2 encI cut_2 :: .row b7 1 [iv (y37_7)] :: .row b6 1 [v18_2] :: F4) rfl ?_
              refine T.text rfl ?_
              refine TO.val rfl rfl rfl (Val.assign rfl) ?_
              refine TO.nil ?_
              refine ⟨rfl, 0, rfl, ?_⟩
              refine T.things (hs' := LB4 :: ownL true v18_2 encI cut_2 :: .row b7 1 [iv (y37_7)] :: .row b6 1 [v18_2] :: F4) rfl ?_
              refine T.block ?_
              refine T.seq ?_
              refine T.drawE (l1 := [0, 1, 3, 4]) (l2 := [2, 5, 6, 7]) (by kernel_rfl) (by kernel_rfl) ?_
              refine TD1.read rfl rfl rfl rfl (Val.load_rowM hu3_t8 (memS (memS (memS (memS (mem0))))) ⟨_, rfl, rfl⟩ rfl rfl rfl) ?_
              refine TD1.read rfl rfl rfl rfl (Val.load_rowM hu4_t19 (memS (memS (memS (memS (mem0))))) ⟨_, rfl, rfl⟩ rfl rfl rfl) ?_
              refine TD1.read rfl rfl rfl rfl (Val.load_rowM hu3_t13 (memS (memS (memS (memS (mem0))))) ⟨_, rfl, rfl⟩ rfl rfl rfl) ?_
              refine TD1.light rfl rfl rfl rfl (Val.move rfl) ?_
              refine TD1.over (fun v => sameC_refl v) (all_cons (⟨_, rfl, (Val.load_rowM hu3_t13 (memS (memS (memS (memS (mem0))))) ⟨_, rfl, rfl⟩ rfl rfl rfl)⟩) (all_cons (⟨_, rfl, (Val.load_rowM hu4_t19 (memS (memS (memS (memS (mem0))))) ⟨_, rfl, rfl⟩ rfl rfl rfl)⟩) (all_cons (⟨_, rfl, (Val.load_rowM hu3_t8 (memS (memS (memS (memS (mem0))))) ⟨_, rfl, rfl⟩ rfl rfl rfl)⟩) all_nil))) ?_
              obtain ⟨y61, hr61, h⟩ := andx_some h
              refine TD2.heavy (fun v => sameC_refl v) rfl (by decide) rfl rfl (OpS.callV rfl rfl rfl rfl (orcN rfl) (RepF.conv (tf_c_there (by first | decide | omega) (Rdl.mono h_b_Gatherings (memS (memS (memS (memS (mem0)))))) (Rdl.mono h_one (memS (memS (memS (memS (mem0)))))) (Rdl.mono (Rdl.gs (C := F4) y25_3) (memS (memS (memS (memS (mem0)))))) (Rdl.mono hu3_t7 (memS (memS (memS (memS (mem0)))))) ((memS (memS (memS (memS (mem0))))) _ hu3_t6) (Rdl.mono h_t (memS (memS (memS (memS (mem0)))))) hr61))) ?_
              rintro _ _ ⟨w61, rfl, rfl⟩
              refine ⟨(all_cons (.inr ⟨_, rfl, (Val.load_rowM hu3_t13 (memS (memS (memS (memS (memS (mem0)))))) ⟨_, rfl, rfl⟩ rfl rfl rfl)⟩) (all_cons (.inl (by kernel_rfl)) (all_cons (.inl (by kernel_rfl)) all_nil))), all_nil, ?_⟩
              refine TD2.things (hs' := .cnt w61 KInt (cntI y61) [] :: LB4 :: ownL true v18_2 encI cut_2 :: .row b7 1 [iv (y37_7)] :: .row b6 1 [v18_2] :: F4) rfl ?_
              obtain ⟨y64, hr64, h⟩ := andx_some h
              refine TD2.heavy (fun v => sameC_refl v) rfl (by decide) rfl rfl (OpS.callV rfl rfl rfl rfl (orcN rfl) (RepF.conv (tf_c_there (by first | decide | omega) (Rdl.mono h_b_Gatherings (memS (memS (memS (memS (memS (mem0))))))) (Rdl.mono h_other (memS (memS (memS (memS (memS (mem0))))))) (Rdl.mono (Rdl.gs (C := F4) y37_3) (memS (memS (memS (memS (memS (mem0))))))) (Rdl.mono hu3_t12 (memS (memS (memS (memS (memS (mem0))))))) ((memS (memS (memS (memS (memS (mem0)))))) _ hu3_t11) (Rdl.mono h_t_2 (memS (memS (memS (memS (memS (mem0))))))) hr64))) ?_
              rintro _ _ ⟨w64, rfl, rfl⟩
              refine ⟨(all_cons (.inl (by kernel_rfl)) (all_cons (.inl (by kernel_rfl)) (all_cons (.inl (by kernel_rfl)) all_nil))), all_nil, ?_⟩
              refine TD2.things (hs' := .cnt w64 KInt (cntI y64) [] :: .cnt w61 KInt (cntI y61) [] :: LB4 :: ownL true v18_2 encI cut_2 :: .row b7 1 [iv (y37_7)] :: .row b6 1 [v18_2] :: F4) rfl ?_
              refine TD2.light rfl rfl rfl rfl (Val.assign rfl) ?_
              refine TD2.light rfl rfl rfl rfl (Val.assign rfl) ?_
              refine TD2.nil ?_
              refine T.seq ?_
              refine T.text rfl ?_
              refine TO.val rfl rfl rfl (Val.load_rowM hu3_t8 (memS (memS (memS (memS (memS (memS (mem0))))))) ⟨_, rfl, rfl⟩ rfl rfl rfl) ?_
              refine TO.val rfl rfl rfl (Val.nil_ptr rfl) ?_
              refine TO.val rfl rfl rfl (Val.faddr_ptr (fo := 4) rfl rfl rfl) ?_
              refine TO.val rfl rfl rfl (Val.load_rowM hu3_t6 (memS (memS (memS (memS (memS (memS (mem0))))))) ⟨_, rfl, rfl⟩ rfl rfl rfl) ?_
              refine TO.val rfl rfl rfl (Val.len_l hu3_t7 (memS (memS (memS (memS (memS (memS (mem0))))))) rfl rfl) ?_
              refine TO.val rfl rfl rfl (Val.move rfl) ?_
              refine TO.nil ?_
              refine T.block ?_
              show T _ _ _ _ _ _
              apply T.iter (r := ans) (W := AV) (fun (j : Int × (List Int)) (w : AV) => ⟨[], [(6, .ptr b6 0 1), (7, .ptr b7 0 1), (17, .map w61), (18, .map w64), (68, w25_2), (69, iv ((y25_4.length : Int))), (70, iv (j.1))], .cnt w64 KInt (cntI y64) [] :: .cnt w61 KInt (cntI y61) [] :: LB4 :: ownL true w encI j.2 :: .row b7 1 [iv (y37_7)] :: .row b6 1 [w] :: F4⟩) (w0 := v18_2) h
              · exact ⟨rfl, (keep_cons rfl (keep_cons rfl (keep_cons rfl (keep_cons rfl (keep_cons rfl (keep_cons rfl (keep_cons rfl keep_nil))))))), (.pick (p := 0) rfl (.pick (p := 0) rfl (.pick (p := 0) rfl (.pick (p := 0) rfl (.pick (p := 0) rfl (.pick (p := 0) rfl .refl))))))⟩
              rintro ⟨x70, cut_3⟩ v18_3 a h
              unfold P_c_Divided_L5 at h
              dsimp only at h
              refine T.at (s' := ⟨[], [(6, .ptr b6 0 1), (7, .ptr b7 0 1), (17, .map w61), (18, .map w64), (68, w25_2), (69, iv ((y25_4.length : Int))), (70, iv (x70))], .cnt w64 KInt (cntI y64) [] :: .cnt w61 KInt (cntI y61) [] :: LB4 :: ownL true v18_3 encI cut_3 :: .row b7 1 [iv (y37_7)] :: .row b6 1 [v18_3] :: F4⟩) rfl ?_
              refine T.seq ?_
              refine T.text rfl ?_
              obtain ⟨c71, hc71⟩ : ∃ c : Bool, c = decide (x70 < (y25_4.length : Int)) := ⟨_, rfl⟩
              refine TO.val rfl rfl rfl (Val.lss hc71 rfl rfl) ?_
              refine TO.nil ?_
              refine T.seq ?_
              cases c71 with
              | true =>
                replace hc71 := of_decide_eq_true hc71.symm
                rw [if_pos hc71] at h
                refine T.condT (fun a ha => ha.ev (.tmp 71) _ rfl) ?_
                refine T.skip ?_
                show T _ _ _ _ _ _
                apply T.join (r := a) (W := AV) (fun (j : (List Int)) (w : AV) => ⟨[], [(6, .ptr b6 0 1), (7, .ptr b7 0 1), (17, .map w61), (18, .map w64), (68, w25_2), (69, iv ((y25_4.length : Int))), (70, iv (x70))], .cnt w64 KInt (cntI y64) [] :: .cnt w61 KInt (cntI y61) [] :: LB4 :: ownL true w encI j :: .row b7 1 [iv (y37_7)] :: .row b6 1 [w] :: F4⟩) h
                · intro j h
                  refine T.block ?_
                  refine T.seq ?_
                  refine T.text rfl ?_
                  refine TO.val rfl rfl rfl (Val.move rfl) ?_
                  obtain ⟨a73, hia73, ea73, h⟩ := el_some h
                  refine TO.fact (rdl_at hu3_t7 (memS (memS (memS (memS (memS (memS (mem0))))))) hia73 ea73) (fun hp => ?_)
                  obtain ⟨pa73, hpa73, hva73⟩ := hp
                  refine TO.val rfl rfl rfl (hva73 ⟨rfl, rfl⟩ rfl rfl) ?_
                  refine TO.val rfl rfl rfl (Val.load_e hpa73 (memS (memS (memS (memS (memS (memS (mem0))))))) ⟨_, rfl, rfl⟩ rfl rfl) ?_
                  refine TO.val rfl rfl rfl (Val.assign rfl) ?_
                  refine TO.val rfl rfl rfl (Val.assign rfl) ?_
                  refine TO.nil ?_
                  refine T.block ?_
                  show T _ _ _ _ _ _
                  apply T.joinA (r := j) (W := Unit) (fun (j : Bool) (w : Unit) => ⟨[], [(6, .ptr b6 0 1), (7, .ptr b7 0 1), (17, .map w61), (18, .map w64), (19, iv (x70)), (20, iv (a73)), (68, w25_2), (69, iv ((y25_4.length : Int))), (70, iv (x70)), (75, bv j)], .cnt w64 KInt (cntI y64) [] :: .cnt w61 KInt (cntI y61) [] :: LB4 :: ownL true v18_3 encI cut_3 :: .row b7 1 [iv (y37_7)] :: .row b6 1 [v18_3] :: F4⟩) h
                  · intro j h
                    refine T.text rfl ?_
                    refine TO.val rfl rfl rfl (Val.move rfl) ?_
                    refine TO.val rfl rfl rfl (Val.move rfl) ?_
                    refine TO.val rfl rfl rfl (Val.lookupI (p := 1) rfl rfl key_ty3 rfl rfl rfl) ?_
                    obtain ⟨c79, hc79⟩ : ∃ c : Bool, c = decide ((y61 x70) > 0) := ⟨_, rfl⟩
                    refine TO.val rfl rfl rfl (Val.gtr hc79 rfl rfl) ?_
                    refine TO.val rfl rfl rfl (Val.move rfl) ?_
                    cases c79 with
                    | true =>
                      replace hc79 := of_decide_eq_true hc79.symm
                      rw [if_pos hc79] at h
                      refine TO.val rfl rfl rfl (Val.move rfl) ?_
                      refine TO.val rfl rfl rfl (Val.move rfl) ?_
                      refine TO.val rfl rfl rfl (Val.lookupI (p := 0) rfl rfl key_ty3 rfl rfl rfl) ?_
                      obtain ⟨c84, hc84⟩ : ∃ c : Bool, c = decide ((y64 x70) > 0) := ⟨_, rfl⟩
                      refine TO.val rfl rfl rfl (Val.gtr hc84 rfl rfl) ?_
                      refine TO.val rfl rfl rfl (Val.pick rfl rfl rfl) ?_
                      refine TO.val rfl rfl rfl (Val.assign rfl) ?_
                      refine TO.nil ?_
                      subst hc84
                      cases h
                      exact ⟨rfl, (), ⟨rfl, (keep_cons rfl (keep_cons rfl (keep_cons rfl (keep_cons rfl (keep_cons rfl (keep_cons rfl (keep_cons rfl (keep_cons rfl (keep_cons rfl (keep_cons rfl keep_nil)))))))))), (.pick (p := 0) rfl (.pick (p := 0) rfl (.pick (p := 0) rfl (.pick (p := 0) rfl (.pick (p := 0) rfl (.pick (p := 0) rfl .refl))))))⟩⟩
                    | false =>
                      replace hc79 := of_decide_eq_false hc79.symm
                      rw [if_neg hc79] at h
                      refine TO.off rfl rfl rfl ?_
                      refine TO.off rfl rfl rfl ?_
                      refine TO.off rfl rfl rfl ?_
                      refine TO.off rfl rfl rfl ?_
                      refine TO.val rfl rfl rfl (Val.pick rfl rfl rfl) ?_
                      refine TO.val rfl rfl rfl (Val.assign rfl) ?_
                      refine TO.nil ?_
                      cases h
                      exact ⟨rfl, (), ⟨rfl, (keep_cons rfl (keep_cons rfl (keep_cons rfl (keep_cons rfl (keep_cons rfl (keep_cons rfl (keep_cons rfl (keep_cons rfl (keep_cons rfl (keep_cons rfl keep_nil)))))))))), (.pick (p := 0) rfl (.pick (p := 0) rfl (.pick (p := 0) rfl (.pick (p := 0) rfl (.pick (p := 0) rfl (.pick (p := 0) rfl .refl))))))⟩⟩
                  · rintro x75 _ h
                    skip
                    refine T.at (s' := ⟨[], [(6, .ptr b6 0 1), (7, .ptr b7 0 1), (17, .map w61), (18, .map w64), (19, iv (x70)), (20, iv (a73)), (68, w25_2), (69, iv ((y25_4.length : Int))), (70, iv (x70)), (75, bv x75)], .cnt w64 KInt (cntI y64) [] :: .cnt w61 KInt (cntI y61) [] :: LB4 :: ownL true v18_3 encI cut_3 :: .row b7 1 [iv (y37_7)] :: .row b6 1 [v18_3] :: F4⟩) rfl ?_
                    cases x75 with
                    | true =>
                      rw [if_pos rfl] at h
                      refine T.condT (fun a ha => ha.ev (.tmp 75) _ rfl) ?_
                      refine T.seq ?_
                      refine T.text rfl ?_
                      refine TO.eff0 rfl rfl (Eff.store_row (p := 5) (cv := [_]) (cells' := [_]) rfl rfl rfl rfl rfl rfl rfl rfl (by first | rfl | simp [GS.one]) (by decide) rfl) ?_
                      rintro _ rfl
                      refine TO.things (hs' := .cnt w64 KInt (cntI y64) [] :: .cnt w61 KInt (cntI y61) [] :: LB4 :: ownL true v18_3 encI cut_3 :: .row b7 1 [iv (y37_7)] :: .row b6 1 [nilS] :: F4) rfl ?_
                      refine TO.eff0 rfl rfl (Eff.store_row (p := 4) (cv := [_]) (cells' := [_]) rfl rfl rfl rfl rfl rfl rfl rfl (by first | rfl | simp [GS.one]) (by decide) rfl) ?_
                      rintro _ rfl
                      refine TO.things (hs' := .cnt w64 KInt (cntI y64) [] :: .cnt w61 KInt (cntI y61) [] :: LB4 :: ownL true v18_3 encI cut_3 :: .row b7 1 [iv (5)] :: .row b6 1 [nilS] :: F4) rfl ?_
                      refine TO.nil ?_
                      refine T.nilown (u := encI.u) ?_
                      refine T.ret ?_
                      cases h
                      exact ⟨ret_ne, ⟨ret_ne, ⟨_, [ownL true v18_3 encI cut_3, .row b7 1 [iv (5)], .row b6 1 [nilS], ownL true nilS encI []], rfl, rfl, (.pick (p := 3) rfl (.pick (p := 3) rfl (.pick (p := 3) rfl (.pick (p := 3) rfl (.pick (p := 0) rfl (.drop (.drop .refl))))))), fun d => ⟨_, [ownL true v18_3 encI cut_3, .row b7 1 [iv (5)], .row b6 1 [nilS], ownL true nilS encI []], rfl, rfl, (.pick (p := 6) rfl (.pick (p := 0) rfl (.pick (p := 0) rfl (.pick (p := 0) rfl (.pick (p := 0) rfl (.drop (.drop .refl))))))), fun d => ⟨ret_ne, ⟨rfl, _, ⟨0, rfl, rfl⟩, [_, _], ⟨⟨_, rfl, LoadR.row (p := 2) rfl ⟨_, rfl, rfl⟩ rfl rfl⟩, ⟨⟨_, rfl, LoadR.row (p := 1) rfl ⟨_, rfl, rfl⟩ rfl rfl⟩, trivial⟩⟩, ⟨nilS, rfl, (.pick (p := 3) rfl (.drop (.drop (.drop (.drop (.drop (.drop (.drop (.drop (.drop (.drop (.drop .refl))))))))))))⟩⟩⟩⟩⟩⟩⟩
                    | false =>
                      rw [if_neg Bool.false_ne_true] at h
                      refine T.condF (fun a ha => ha.ev (.tmp 75) _ rfl) ?_
                      show T _ _ _ _ _ _
                      apply T.joinA (r := j) (W := Unit) (fun (j : Bool) (w : Unit) => ⟨[], [(6, .ptr b6 0 1), (7, .ptr b7 0 1), (17, .map w61), (18, .map w64), (19, iv (x70)), (68, w25_2), (69, iv ((y25_4.length : Int))), (70, iv (x70)), (86, bv j)], .cnt w64 KInt (cntI y64) [] :: .cnt w61 KInt (cntI y61) [] :: LB4 :: ownL true v18_3 encI cut_3 :: .row b7 1 [iv (y37_7)] :: .row b6 1 [v18_3] :: F4⟩) h
                      · intro j h
                        refine T.text rfl ?_
                        refine TO.val rfl rfl rfl (Val.move rfl) ?_
                        refine TO.val rfl rfl rfl (Val.move rfl) ?_
                        refine TO.val rfl rfl rfl (Val.lookupI (p := 1) rfl rfl key_ty3 rfl rfl rfl) ?_
                        obtain ⟨c90, hc90⟩ : ∃ c : Bool, c = decide ((y61 x70) > 0) := ⟨_, rfl⟩
                        refine TO.val rfl rfl rfl (Val.gtr hc90 rfl rfl) ?_
                        refine TO.val rfl rfl rfl (Val.move rfl) ?_
                        cases c90 with
                        | true =>
                          replace hc90 := of_decide_eq_true hc90.symm
                          rw [if_pos hc90] at h
                          refine TO.val rfl rfl rfl (Val.move rfl) ?_
                          obtain ⟨c93, hc93⟩ : ∃ c : Bool, c = decide (a73 ≥ 0) := ⟨_, rfl⟩
                          refine TO.val rfl rfl rfl (Val.geq hc93 rfl rfl) ?_
                          refine TO.val rfl rfl rfl (Val.pick rfl rfl rfl) ?_
                          refine TO.val rfl rfl rfl (Val.move rfl) ?_
                          cases c93 with
                          | true =>
                            replace hc93 := of_decide_eq_true hc93.symm
                            rw [if_pos hc93] at h
                            refine TO.val rfl rfl rfl (Val.move rfl) ?_
                            refine TO.val rfl rfl rfl (Val.move rfl) ?_
                            refine TO.val rfl rfl rfl (Val.lookupI (p := 0) rfl rfl key_ty3 rfl rfl rfl) ?_
                            obtain ⟨c99, hc99⟩ : ∃ c : Bool, c = decide ((y64 a73) > 0) := ⟨_, rfl⟩
                            refine TO.val rfl rfl rfl (Val.gtr hc99 rfl rfl) ?_
                            refine TO.val rfl rfl rfl (Val.pick rfl rfl rfl) ?_
                            refine TO.val rfl rfl rfl (Val.assign rfl) ?_
                            refine TO.nil ?_
                            subst hc99
                            cases h
                            exact ⟨rfl, (), ⟨rfl, (keep_cons rfl (keep_cons rfl (keep_cons rfl (keep_cons rfl (keep_cons rfl (keep_cons rfl (keep_cons rfl (keep_cons rfl (keep_cons rfl keep_nil))))))))), (.pick (p := 0) rfl (.pick (p := 0) rfl (.pick (p := 0) rfl (.pick (p := 0) rfl (.pick (p := 0) rfl (.pick (p := 0) rfl .refl))))))⟩⟩
                          | false =>
                            replace hc93 := of_decide_eq_false hc93.symm
                            rw [if_neg hc93] at h
                            refine TO.off rfl rfl rfl ?_
                            refine TO.off rfl rfl rfl ?_
                            refine TO.off rfl rfl rfl ?_
                            refine TO.off rfl rfl rfl ?_
                            refine TO.val rfl rfl rfl (Val.pick rfl rfl rfl) ?_
                            refine TO.val rfl rfl rfl (Val.assign rfl) ?_
                            refine TO.nil ?_
                            cases h
                            exact ⟨rfl, (), ⟨rfl, (keep_cons rfl (keep_cons rfl (keep_cons rfl (keep_cons rfl (keep_cons rfl (keep_cons rfl (keep_cons rfl (keep_cons rfl (keep_cons rfl keep_nil))))))))), (.pick (p := 0) rfl (.pick (p := 0) rfl (.pick (p := 0) rfl (.pick (p := 0) rfl (.pick (p := 0) rfl (.pick (p := 0) rfl .refl))))))⟩⟩
                        | false =>
                          replace hc90 := of_decide_eq_false hc90.symm
                          rw [if_neg hc90] at h
                          refine TO.off rfl rfl rfl ?_
                          refine TO.off rfl rfl rfl ?_
                          refine TO.val rfl rfl rfl (Val.pick rfl rfl rfl) ?_
                          refine TO.val rfl rfl rfl (Val.move rfl) ?_
                          refine TO.off rfl rfl rfl ?_
                          refine TO.off rfl rfl rfl ?_
                          refine TO.off rfl rfl rfl ?_
                          refine TO.off rfl rfl rfl ?_
                          refine TO.val rfl rfl rfl (Val.pick rfl rfl rfl) ?_
                          refine TO.val rfl rfl rfl (Val.assign rfl) ?_
                          refine TO.nil ?_
                          cases h
                          exact ⟨rfl, (), ⟨rfl, (keep_cons rfl (keep_cons rfl (keep_cons rfl (keep_cons rfl (keep_cons rfl (keep_cons rfl (keep_cons rfl (keep_cons rfl (keep_cons rfl keep_nil))))))))), (.pick (p := 0) rfl (.pick (p := 0) rfl (.pick (p := 0) rfl (.pick (p := 0) rfl (.pick (p := 0) rfl (.pick (p := 0) rfl .refl))))))⟩⟩
                      · rintro x86 _ h
                        skip
                        refine T.at (s' := ⟨[], [(6, .ptr b6 0 1), (7, .ptr b7 0 1), (17, .map w61), (18, .map w64), (19, iv (x70)), (68, w25_2), (69, iv ((y25_4.length : Int))), (70, iv (x70)), (86, bv x86)], .cnt w64 KInt (cntI y64) [] :: .cnt w61 KInt (cntI y61) [] :: LB4 :: ownL true v18_3 encI cut_3 :: .row b7 1 [iv (y37_7)] :: .row b6 1 [v18_3] :: F4⟩) rfl ?_
                        cases x86 with
                        | true =>
                          rw [if_pos rfl] at h
                          refine T.condT (fun a ha => ha.ev (.tmp 86) _ rfl) ?_
                          refine T.text rfl ?_
                          refine TO.val rfl rfl rfl (Val.load_row (p := 5) rfl ⟨_, rfl, rfl⟩ rfl rfl rfl) ?_
                          refine TO.val rfl rfl rfl (Val.move rfl) ?_
                          refine TO.build1 (en := encI) (a := x70) rfl rfl rfl ⟨rfl, rfl⟩ ⟨_, rfl, rfl⟩ (by decide) (by decide) rfl rfl (fun v103 => ?_)
                          obtain ⟨hk104, h⟩ := chk_some h
                          refine TO.eff rfl rfl rfl (Eff.append_own (b := 8) (en := encI) (l := cut_3) (l2 := [x70]) (p := 4) (q := 0) ⟨rfl, rfl, rfl, ⟨_, rfl, rfl⟩, by decide, by decide⟩ rfl rfl rfl rfl rfl rfl (flat_ones _) (by decide) hk104) ?_
                          rintro v104 _ rfl
                          refine TO.things (hs' := ownL false v103 encI [x70] :: .cnt w64 KInt (cntI y64) [] :: .cnt w61 KInt (cntI y61) [] :: LB4 :: ownL true v104 encI (cut_3 ++ [x70]) :: .row b7 1 [iv (y37_7)] :: .row b6 1 [_] :: F4) rfl ?_
                          refine TO.fact (own_cellS (p := 4) rfl) (fun hot18 => ?_)
                          refine TO.eff0 rfl rfl (Eff.store_row (p := 6) (cv := [_]) (cells' := [_]) rfl rfl rfl rfl rfl hot18.1 rfl rfl (by first | rfl | simp [GS.one, hot18.2]) (by decide) rfl) ?_
                          rintro _ rfl
                          refine TO.things (hs' := ownL false v103 encI [x70] :: .cnt w64 KInt (cntI y64) [] :: .cnt w61 KInt (cntI y61) [] :: LB4 :: ownL true v104 encI (cut_3 ++ [x70]) :: .row b7 1 [iv (y37_7)] :: .row b6 1 [v104] :: F4) rfl ?_
                          refine TO.nil ?_
                          cases h
                          exact ⟨rfl, v104, ⟨rfl, (keep_cons rfl (keep_cons rfl (keep_cons rfl (keep_cons rfl (keep_cons rfl (keep_cons rfl (keep_cons rfl keep_nil))))))), (.pick (p := 1) rfl (.pick (p := 1) rfl (.pick (p := 1) rfl (.pick (p := 1) rfl (.pick (p := 1) rfl (.pick (p := 1) rfl (.drop .refl)))))))⟩⟩
                        | false =>
                          rw [if_neg Bool.false_ne_true] at h
                          refine T.condF (fun a ha => ha.ev (.tmp 86) _ rfl) ?_
                          refine T.skip ?_
                          cases h
                          exact ⟨rfl, v18_3, ⟨rfl, (keep_cons rfl (keep_cons rfl (keep_cons rfl (keep_cons rfl (keep_cons rfl (keep_cons rfl (keep_cons rfl keep_nil))))))), (.pick (p := 0) rfl (.pick (p := 0) rfl (.pick (p := 0) rfl (.pick (p := 0) rfl (.pick (p := 0) rfl (.pick (p := 0) rfl .refl))))))⟩⟩
                · rintro cut_4 v18_4 h
                  skip
                  refine T.at (s' := ⟨[], [(6, .ptr b6 0 1), (7, .ptr b7 0 1), (17, .map w61), (18, .map w64), (68, w25_2), (69, iv ((y25_4.length : Int))), (70, iv (x70))], .cnt w64 KInt (cntI y64) [] :: .cnt w61 KInt (cntI y61) [] :: LB4 :: ownL true v18_4 encI cut_4 :: .row b7 1 [iv (y37_7)] :: .row b6 1 [v18_4] :: F4⟩) rfl ?_
                  refine T.text rfl ?_
                  obtain ⟨hk105, h⟩ := chk_some h
                  refine TO.val rfl rfl rfl (Val.add rfl rfl hk105) ?_
                  refine TO.val rfl rfl rfl (Val.move rfl) ?_
                  refine TO.nil ?_
                  cases h
                  exact ⟨rfl, v18_4, ⟨rfl, (keep_cons rfl (keep_cons rfl (keep_cons rfl (keep_cons rfl (keep_cons rfl (keep_cons rfl (keep_cons rfl keep_nil))))))), (.pick (p := 0) rfl (.pick (p := 0) rfl (.pick (p := 0) rfl (.pick (p := 0) rfl (.pick (p := 0) rfl (.pick (p := 0) rfl .refl))))))⟩⟩
              | false =>
                replace hc71 := of_decide_eq_false hc71.symm
                rw [if_neg hc71] at h
                refine T.condF (fun a ha => ha.ev (.tmp 71) _ rfl) ?_
                refine T.exit ?_
                cases h
                exact ⟨ex_ne, ⟨rfl, v18_3, (.pick (p := 2) rfl (.pick (p := 2) rfl (.pick (p := 2) rfl (.pick (p := 2) rfl (.drop (.drop .refl))))))⟩⟩
            · rintro cut_2 v18_2 h
              cases h
              exact ⟨rfl, v18_2, (.pick (p := 5) rfl (.pick (p := 0) rfl (.pick (p := 0) rfl (.pick (p := 0) rfl (.drop (.drop .refl))))))⟩
          · rintro d cut v18 h
            cases h
            exact ⟨rfl, (d, v18), ⟨rfl, (keep_cons rfl (keep_cons rfl keep_nil)), (.pick (p := 0) rfl (.pick (p := 0) rfl (.pick (p := 0) rfl (.pick (p := 0) rfl (.pick (p := 1) rfl (.pick (p := 1) rfl (.pick (p := 1) rfl (.pick (p := 1) rfl (.pick (p := 1) rfl (.pick (p := 1) rfl (.pick (p := 1) rfl (.drop .refl))))))))))))⟩⟩
        · rintro cut ⟨iddfr3, v18⟩ h
          skip
          refine T.at (s' := ⟨[iddfr3], [(6, .ptr b6 0 1), (7, .ptr b7 0 1)], .obj iddfr3 (.dfr true) :: ownL true v18 encI cut :: .row b7 1 [iv (y37_7)] :: .row b6 1 [v18] :: .row b11 1 [.ptr w37 0 5] :: .row w37 5 [iv (y37_2), v_b_Gatherings, v_other, y37_3.v, w37_2] :: ownL true w37_2 encI y37_4 :: .row b8 1 [.ptr w25 0 5] :: .row w25 5 [iv (y25_2), v_b_Gatherings, v_one, y25_3.v, w25_2] :: ownL true w25_2 encI y25_4 :: .row b3 2 [iv (b_Signed), v_b_Gatherings] :: C⟩) rfl ?_
          refine T.seq ?_
          refine T.text rfl ?_
          refine TO.val rfl rfl rfl (Val.load_row (p := 3) rfl ⟨_, rfl, rfl⟩ rfl rfl rfl) ?_
          refine TO.fact (own_cellS (p := 1) rfl) (fun hot18 => ?_)
          refine TO.eff0 rfl rfl (Eff.store_row (p := 3) (cv := [_]) (cells' := [_]) rfl rfl rfl rfl rfl hot18.1 rfl rfl (by first | rfl | simp [GS.one, hot18.2]) (by decide) rfl) ?_
          rintro _ rfl
          refine TO.things (hs' := .obj iddfr3 (.dfr true) :: ownL true v18 encI cut :: .row b7 1 [iv (y37_7)] :: .row b6 1 [v18] :: .row b11 1 [.ptr w37 0 5] :: .row w37 5 [iv (y37_2), v_b_Gatherings, v_other, y37_3.v, w37_2] :: ownL true w37_2 encI y37_4 :: .row b8 1 [.ptr w25 0 5] :: .row w25 5 [iv (y25_2), v_b_Gatherings, v_one, y25_3.v, w25_2] :: ownL true w25_2 encI y25_4 :: .row b3 2 [iv (b_Signed), v_b_Gatherings] :: C) rfl ?_
          refine TO.eff0 rfl rfl (Eff.store_row (p := 2) (cv := [_]) (cells' := [_]) rfl rfl rfl rfl rfl rfl rfl rfl (by first | rfl | simp [GS.one]) (by decide) rfl) ?_
          rintro _ rfl
          refine TO.things (hs' := .obj iddfr3 (.dfr true) :: ownL true v18 encI cut :: .row b7 1 [iv (0)] :: .row b6 1 [v18] :: .row b11 1 [.ptr w37 0 5] :: .row w37 5 [iv (y37_2), v_b_Gatherings, v_other, y37_3.v, w37_2] :: ownL true w37_2 encI y37_4 :: .row b8 1 [.ptr w25 0 5] :: .row w25 5 [iv (y25_2), v_b_Gatherings, v_one, y25_3.v, w25_2] :: ownL true w25_2 encI y25_4 :: .row b3 2 [iv (b_Signed), v_b_Gatherings] :: C) rfl ?_
          refine TO.nil ?_
          refine T.ret ?_
          cases h
          exact ⟨rfl, _, ⟨0, rfl, rfl⟩, [_, _], ⟨⟨_, rfl, LoadR.row (p := 2) rfl ⟨_, rfl, rfl⟩ rfl rfl⟩, ⟨⟨_, rfl, LoadR.row (p := 1) rfl ⟨_, rfl, rfl⟩ rfl rfl⟩, trivial⟩⟩, ⟨v18, rfl, (.pick (p := 0) rfl (.drop (.drop (.drop (.drop (.drop (.drop (.drop (.drop (.drop .refl))))))))))⟩⟩
theorem w_c_Divided (b_Signed : Int) (b_Gatherings : GS encG) (one : GS encIt) (other : GS encIt) (r : (List Int) × Int) (h : P_c_Divided b_Signed b_Gatherings.l one.l other.l = some r) : Comes (EL 5) 11 [.agg [iv (b_Signed), b_Gatherings.v], one.v, other.v] (.tuple [(GSo true encI r.1).v, iv r.2]) :=
  TF.run (tf_c_Divided (Nat.le_refl _) (Rdl.gs b_Gatherings) (Rdl.gs one) (Rdl.gs other) h) fun w => (.tuple (.cons (.ownL (en := encI) (p := 0) rfl (.lits encI_lits)) (.cons .lit .nil)))
end Go.Am.Ythckcbfijdambaa
end
section
namespace Go.Am
set_option linter.unusedVariables false
noncomputable def P_r4_Check_L1 (c_Items : List Item) (all33 : List Leaf) : Int → Option (Stp Int (Ex Unit (Int × Int × Int))) := fun i =>
  if i < (c_Items.length : Int) then
    el c_Items i fun a49 =>
    andx (P_r4_item a49.could.l (all33.length : Int)) fun y52 =>
      if ¬ y52 = 0 then
        some (Stp.dn (Ex.rt (2, i, y52)))
      else
        chk (I64 (i + 1)) (
          some (Stp.ag (i + 1)))
  else
    some (Stp.dn (Ex.nx ()))
noncomputable def P_r4_Check_L2 (c_Items : List Item) : (Int × Int) → Option (Stp (Int × Int) (Ex Unit (Int × Int × Int))) := fun (doubts, i) =>
  if i < (c_Items.length : Int) then
    seqx (
      andx (
        el c_Items i fun a67 =>
        if (a67.could.l.length : Int) > 1 then
          chk (I64 (doubts + 1)) (
            some (doubts + 1))
        else
          some doubts) fun doubts_2 =>
        if doubts_2 > 3 then
          some (Ex.rt (Stp.dn (Ex.rt (3, i, 3))))
        else
          some (Ex.nx doubts_2)) fun doubts_2 =>
      chk (I64 (i + 1)) (
        some (Stp.ag (doubts_2, (i + 1))))
  else
    some (Stp.dn (Ex.nx ()))
noncomputable def P_r4_Check (c_Book_Signed : Int) (c_Book_Gatherings : List Gat) (c_Items : List Item) : Option (Int × Int × Int) :=
  andx (P_r1_Check c_Book_Signed c_Book_Gatherings) fun (part15, at_15, e15) =>
    andx (
      andx (
        if e15 = 0 then
          andx (P_r1_All c_Book_Signed c_Book_Gatherings) fun all24 =>
            some (decide ((all24.length : Int) > 120))
        else
          some false) fun x27 =>
        if x27 = true then
          some 3
        else
          some e15) fun e =>
      if ¬ e = 0 then
        some (1, 0, e)
      else
        andx (P_r1_All c_Book_Signed c_Book_Gatherings) fun all33 =>
          if (c_Items.length : Int) > 120 then
            some (2, 0, 3)
          else
            seqx (
              iter (P_r4_Check_L1 c_Items all33) 0) fun _ =>
              seqx (
                iter (P_r4_Check_L2 c_Items) (0, 0)) fun _ =>
                some (0, 0, 0)
noncomputable def P_r4_All_L3 (l9 : List (List Int)) (k_ : Int) : (Int × (List (List Int))) → Option (Stp (Int × (List (List Int))) (List (List Int))) := fun (n, next_2) =>
  if n < ([(-1)].length : Int) then
    el l9 k_ fun a43 =>
    el [(-1)] n fun a48 =>
    chk (([] : List Int).length + a43.length < 1000000000) (
      chk ((([] : List Int) ++ a43).length + [a48].length < 1000000000) (
        chk (next_2.length + [(([] : List Int) ++ a43) ++ [a48]].length < 1000000000) (
          chk (I64 (n + 1)) (
            some (Stp.ag ((n + 1), next_2 ++ [(([] : List Int) ++ a43) ++ [a48]]))))))
  else
    some (Stp.dn next_2)
noncomputable def P_r4_All_L2 (l9 : List (List Int)) : (Int × (List (List Int))) → Option (Stp (Int × (List (List Int))) (List (List Int))) := fun (k_, next) =>
  if k_ < (l9.length : Int) then
    andx (
      iter (P_r4_All_L3 l9 k_) (0, next)) fun next_2 =>
      chk (I64 (k_ + 1)) (
        some (Stp.ag ((k_ + 1), next_2)))
  else
    some (Stp.dn next)
noncomputable def P_r4_All_L5 (l9 : List (List Int)) (a20 : Item) (k_ : Int) : (Int × (List (List Int))) → Option (Stp (Int × (List (List Int))) (List (List Int))) := fun (n, next_2) =>
  if n < (a20.could.l.length : Int) then
    el l9 k_ fun a43 =>
    el a20.could.l n fun a48 =>
    chk (([] : List Int).length + a43.length < 1000000000) (
      chk ((([] : List Int) ++ a43).length + [a48].length < 1000000000) (
        chk (next_2.length + [(([] : List Int) ++ a43) ++ [a48]].length < 1000000000) (
          chk (I64 (n + 1)) (
            some (Stp.ag ((n + 1), next_2 ++ [(([] : List Int) ++ a43) ++ [a48]]))))))
  else
    some (Stp.dn next_2)
noncomputable def P_r4_All_L4 (l9 : List (List Int)) (a20 : Item) : (Int × (List (List Int))) → Option (Stp (Int × (List (List Int))) (List (List Int))) := fun (k_, next) =>
  if k_ < (l9.length : Int) then
    andx (
      iter (P_r4_All_L5 l9 a20 k_) (0, next)) fun next_2 =>
      chk (I64 (k_ + 1)) (
        some (Stp.ag ((k_ + 1), next_2)))
  else
    some (Stp.dn next)
noncomputable def P_r4_All_L1 (c_Items : List Item) : (Int × (List (List Int)) × Bool) → Option (Stp (Int × (List (List Int)) × Bool) ((List (List Int)) × Bool)) := fun (i, l9, z) =>
  if i < (c_Items.length : Int) then
    andx (
      el c_Items i fun a20 =>
      if (a20.could.l.length : Int) = 0 then
        andx (
          iter (P_r4_All_L2 l9) (0, ([] : List (List Int)))) fun next =>
          some next
      else
        andx (
          iter (P_r4_All_L4 l9 a20) (0, ([] : List (List Int)))) fun next =>
          some next) fun next =>
      chk (I64 (i + 1)) (
        some (Stp.ag ((i + 1), next, true)))
  else
    some (Stp.dn (l9, z))
noncomputable def P_r4_All (c_Book_Signed : Int) (c_Book_Gatherings : List Gat) (c_Items : List Item) : Option ((List (List Int)) × Bool) :=
  andx (
    iter (P_r4_All_L1 c_Items) (0, [([] : List Int)], false)) fun (l9, z) =>
    some (l9, z)
noncomputable def P_r4_Divided_L1 (y41 : List (List Int)) (y41_2 : Bool) (y45 : List (List Int)) (y45_2 : Bool) (y55 : List Int) : (Int × (List Int)) → Option (Stp (Int × (List Int)) (Ex (List Int) ((List Int) × Int))) := fun (i, out) =>
  if i < (y55.length : Int) then
    seqx (
      el ((GSo y41_2 (encSl encI) (List.map (GSo true encI) y41)).l) 0 fun a63 =>
      andx (P_r1_Has a63.l i) fun has66 =>
        if has66 = true then
          el ((GSo y45_2 (encSl encI) (List.map (GSo true encI) y45)).l) 0 fun a69 =>
          andx (P_r1_Has a69.l i) fun has72 =>
            if has72 = true then
              some (Ex.rt (Stp.dn (Ex.rt ([], 5))))
            else
              andx (
                el y55 i fun a75 =>
                if a75 ≥ 0 then
                  el ((GSo y45_2 (encSl encI) (List.map (GSo true encI) y45)).l) 0 fun a80 =>
                  el y55 i fun a84 =>
                  andx (P_r1_Has a80.l a84) fun has86 =>
                    some has86
                else
                  some false) fun x87 =>
                if x87 = true then
                  chk (out.length + [i].length < 1000000000) (
                    some (Ex.nx (out ++ [i])))
                else
                  some (Ex.nx out)
        else
          some (Ex.nx out)) fun out_2 =>
      chk (I64 (i + 1)) (
        some (Stp.ag ((i + 1), out_2)))
  else
    some (Stp.dn (Ex.nx out))
noncomputable def P_r4_Divided (b_Signed : Int) (b_Gatherings : List Gat) (one : List Item) (other : List Item) : Option ((List Int) × Int) :=
  andx (P_r4_Check b_Signed b_Gatherings one) fun (y20, y20_2, y20_3) =>
    if ¬ y20_3 = 0 then
      some ([], y20_3)
    else
      andx (P_r4_Check b_Signed b_Gatherings other) fun (y31, y31_2, y31_3) =>
        if ¬ y31_3 = 0 then
          some ([], y31_3)
        else
          andx (P_r4_All b_Signed b_Gatherings one) fun (y41, y41_2) =>
            andx (P_r4_All b_Signed b_Gatherings other) fun (y45, y45_2) =>
              seqx (
                andx (
                  if (((GSo y41_2 (encSl encI) (List.map (GSo true encI) y41)).l).length : Int) > 1 then
                    some true
                  else
                    some (decide ((((GSo y45_2 (encSl encI) (List.map (GSo true encI) y45)).l).length : Int) > 1))) fun x53 =>
                  if x53 = true then
                    some (Ex.rt ([], 2))
                  else
                    some (Ex.nx ())) fun _ =>
                andx (P_r4_Mates b_Signed b_Gatherings) fun y55 =>
                  seqx (
                    iter (P_r4_Divided_L1 y41 y41_2 y45 y45_2 y55) (0, [])) fun out =>
                    some (out, 0)
end Go.Am
end
section
namespace Go.Am.Ythckcbfijdambaa
open Go.Am Go.RowKit
set_option linter.unusedVariables false
set_option linter.unusedSimpArgs false
set_option maxRecDepth 10000 in
theorem tf_r4_Check {k : Nat} (hk : 4 ≤ k) {C : List Thing} {c_Book_Signed : Int} {v_c_Book_Gatherings : AV} {c_Book_Gatherings : List Gat} {v_c_Items : AV} {c_Items : List Item} (h_c_Book_Gatherings : Rdl C encG v_c_Book_Gatherings c_Book_Gatherings) (h_c_Items : Rdl C encIt v_c_Items c_Items) {r : Int × Int × Int} (h : P_r4_Check c_Book_Signed c_Book_Gatherings c_Items = some r) :
    TF (EL k) 41 [.agg [iv (c_Book_Signed), v_c_Book_Gatherings, v_c_Items]] C (RepF (fun (w : Unit) => .tuple [iv r.1, iv r.2.1, iv r.2.2]) (fun (w : Unit) => C)) := by
  unfold P_r4_Check at h
  refine TF.enter (fn := Go.Proofs.Try.f41) rfl rfl rfl rfl rfl ?_
  refine T.seq ?_
  refine T.text rfl ?_
  refine TO.box (k := 3) (cells := [_, _, _]) rfl rfl rfl rfl rfl rfl rfl (fun b1 => ?_)
  refine TO.val rfl rfl rfl (Val.assign rfl) ?_
  refine TO.val rfl rfl rfl (Val.assign rfl) ?_
  refine TO.val rfl rfl rfl (Val.assign rfl) ?_
  refine TO.nil ?_
  refine T.seq ?_
  refine T.text rfl ?_
  refine TO.val rfl rfl rfl (Val.faddr_ptr (fo := 0) rfl rfl rfl) ?_
  refine TO.val rfl rfl rfl (Val.load_rows (p := 0) (c := [_, _]) rfl ⟨⟨_, rfl, rfl⟩, rfl, by decide⟩ rfl rfl rfl rfl) ?_
  obtain ⟨⟨part15, at_15, e15⟩, hr15, h⟩ := andx_some h
  dsimp only at h
  obtain ⟨g, hgg, hrg⟩ := Rdl.reif (hs := .row b1 3 [iv (c_Book_Signed), v_c_Book_Gatherings, v_c_Items] :: C) h_c_Book_Gatherings (memS (mem0)) (ReifL.flat encG_tr)
  refine TO.call rfl rfl rfl rfl rfl (orcL rfl (by first | decide | omega)) (.cons (.agg (.cons .lit (.cons (hrg _) .nil))) .nil) (sem_of (w_r1_Check c_Book_Signed g _ (by try rw [hgg]; exact hr15))) ?_
  refine TO.val rfl rfl rfl (Val.move rfl) ?_
  refine TO.val rfl rfl rfl (Val.extract rfl rfl) ?_
  refine TO.val rfl rfl rfl (Val.extract rfl rfl) ?_
  refine TO.val rfl rfl rfl (Val.extract rfl rfl) ?_
  refine TO.val rfl rfl rfl (Val.assign rfl) ?_
  refine TO.val rfl rfl rfl (Val.assign rfl) ?_
  refine TO.val rfl rfl rfl (Val.assign rfl) ?_
  refine TO.nil ?_
  show T _ _ _ _ _ _
  apply T.joinA (r := r) (W := Unit) (fun (j : Int) (w : Unit) => ⟨[], [(1, .ptr b1 0 3), (7, iv (j))], .row b1 3 [iv (c_Book_Signed), v_c_Book_Gatherings, v_c_Items] :: C⟩) h
  · intro j h
    show T _ _ _ _ _ _
    apply T.joinA (r := j) (W := Unit) (fun (j : Bool) (w : Unit) => ⟨[], [(1, .ptr b1 0 3), (7, iv (e15)), (27, bv j)], .row b1 3 [iv (c_Book_Signed), v_c_Book_Gatherings, v_c_Items] :: C⟩) h
    · intro j h
      refine T.text rfl ?_
      refine TO.val rfl rfl rfl (Val.move rfl) ?_
      obtain ⟨c20, hc20⟩ : ∃ c : Bool, c = decide (e15 = 0) := ⟨_, rfl⟩
      refine TO.val rfl rfl rfl (Val.eql hc20 rfl rfl) ?_
      refine TO.val rfl rfl rfl (Val.move rfl) ?_
      cases c20 with
      | true =>
        replace hc20 := of_decide_eq_true hc20.symm
        rw [if_pos hc20] at h
        refine TO.val rfl rfl rfl (Val.faddr_ptr (fo := 0) rfl rfl rfl) ?_
        refine TO.val rfl rfl rfl (Val.load_rows (p := 0) (c := [_, _]) rfl ⟨⟨_, rfl, rfl⟩, rfl, by decide⟩ rfl rfl rfl rfl) ?_
        obtain ⟨all24, hr24, h⟩ := andx_some h
        obtain ⟨g_2, hgg_2, hrg_2⟩ := Rdl.reif (hs := .row b1 3 [iv (c_Book_Signed), v_c_Book_Gatherings, v_c_Items] :: C) h_c_Book_Gatherings (memS (mem0)) (ReifL.flat encG_tr)
        refine TO.call rfl rfl rfl rfl rfl (orcL rfl (by first | decide | omega)) (.cons (.agg (.cons .lit (.cons (hrg_2 _) .nil))) .nil) (sem_of (w_r1_All c_Book_Signed g_2 _ (by try rw [hgg_2]; exact hr24))) ?_
        refine TO.val rfl rfl rfl (Val.len_gs rfl rfl) ?_
        obtain ⟨c26, hc26⟩ : ∃ c : Bool, c = decide ((all24.length : Int) > 120) := ⟨_, rfl⟩
        refine TO.val rfl rfl rfl (Val.gtr hc26 rfl rfl) ?_
        refine TO.val rfl rfl rfl (Val.pick rfl rfl rfl) ?_
        refine TO.nil ?_
        subst hc26
        cases h
        exact ⟨rfl, (), ⟨rfl, (keep_cons rfl (keep_cons rfl (keep_cons rfl keep_nil))), (.pick (p := 0) rfl .refl)⟩⟩
      | false =>
        replace hc20 := of_decide_eq_false hc20.symm
        rw [if_neg hc20] at h
        refine TO.off rfl rfl rfl ?_
        refine TO.off rfl rfl rfl ?_
        refine TO.off rfl rfl rfl ?_
        refine TO.off rfl rfl rfl ?_
        refine TO.off rfl rfl rfl ?_
        refine TO.val rfl rfl rfl (Val.pick rfl rfl rfl) ?_
        refine TO.nil ?_
        cases h
        exact ⟨rfl, (), ⟨rfl, (keep_cons rfl (keep_cons rfl (keep_cons rfl keep_nil))), (.pick (p := 0) rfl .refl)⟩⟩
    · rintro x27 _ h
      skip
      refine T.at (s' := ⟨[], [(1, .ptr b1 0 3), (7, iv (e15)), (27, bv x27)], .row b1 3 [iv (c_Book_Signed), v_c_Book_Gatherings, v_c_Items] :: C⟩) rfl ?_
      cases x27 with
      | true =>
        rw [if_pos rfl] at h
        refine T.condT (fun a ha => ha.ev (.tmp 27) _ rfl) ?_
        refine T.text rfl ?_
        refine TO.val rfl rfl rfl (Val.assign rfl) ?_
        refine TO.nil ?_
        cases h
        exact ⟨rfl, (), ⟨rfl, (keep_cons rfl (keep_cons rfl keep_nil)), (.pick (p := 0) rfl .refl)⟩⟩
      | false =>
        rw [if_neg Bool.false_ne_true] at h
        refine T.condF (fun a ha => ha.ev (.tmp 27) _ rfl) ?_
        refine T.skip ?_
        cases h
        exact ⟨rfl, (), ⟨rfl, (keep_cons rfl (keep_cons rfl keep_nil)), (.pick (p := 0) rfl .refl)⟩⟩
  · rintro e _ h
    skip
    refine T.at (s' := ⟨[], [(1, .ptr b1 0 3), (7, iv (e))], .row b1 3 [iv (c_Book_Signed), v_c_Book_Gatherings, v_c_Items] :: C⟩) rfl ?_
    refine T.seq ?_
    refine T.seq ?_
    refine T.text rfl ?_
    refine TO.val rfl rfl rfl (Val.move rfl) ?_
    obtain ⟨c29, hc29⟩ : ∃ c : Bool, c = decide (¬ e = 0) := ⟨_, rfl⟩
    refine TO.val rfl rfl rfl (Val.neq hc29 rfl rfl) ?_
    refine TO.nil ?_
    cases c29 with
    | true =>
      replace hc29 := of_decide_eq_true hc29.symm
      rw [if_pos hc29] at h
      refine T.condT (fun a ha => ha.ev (.tmp 29) _ rfl) ?_
      refine T.seq ?_
      refine T.text rfl ?_
      refine TO.val rfl rfl rfl (Val.move rfl) ?_
      refine TO.val rfl rfl rfl (Val.assign rfl) ?_
      refine TO.val rfl rfl rfl (Val.assign rfl) ?_
      refine TO.val rfl rfl rfl (Val.assign rfl) ?_
      refine TO.nil ?_
      refine T.ret ?_
      cases h
      exact ⟨rfl, _, rfl, ⟨(), rfl, (.drop .refl)⟩⟩
    | false =>
      replace hc29 := of_decide_eq_false hc29.symm
      rw [if_neg hc29] at h
      refine T.condF (fun a ha => ha.ev (.tmp 29) _ rfl) ?_
      refine T.skip ?_
      refine T.seq ?_
      refine T.text rfl ?_
      refine TO.val rfl rfl rfl (Val.faddr_ptr (fo := 0) rfl rfl rfl) ?_
      refine TO.val rfl rfl rfl (Val.load_rows (p := 0) (c := [_, _]) rfl ⟨⟨_, rfl, rfl⟩, rfl, by decide⟩ rfl rfl rfl rfl) ?_
      obtain ⟨all33, hr33, h⟩ := andx_some h
      obtain ⟨g_2, hgg_2, hrg_2⟩ := Rdl.reif (hs := .row b1 3 [iv (c_Book_Signed), v_c_Book_Gatherings, v_c_Items] :: C) h_c_Book_Gatherings (memS (mem0)) (ReifL.flat encG_tr)
      refine TO.call rfl rfl rfl rfl rfl (orcL rfl (by first | decide | omega)) (.cons (.agg (.cons .lit (.cons (hrg_2 _) .nil))) .nil) (sem_of (w_r1_All c_Book_Signed g_2 _ (by try rw [hgg_2]; exact hr33))) ?_
      refine TO.val rfl rfl rfl (Val.len_gs rfl rfl) ?_
      refine TO.val rfl rfl rfl (Val.assign rfl) ?_
      refine TO.nil ?_
      refine T.seq ?_
      refine T.seq ?_
      refine T.text rfl ?_
      refine TO.val rfl rfl rfl (Val.faddr_ptr (fo := 2) rfl rfl rfl) ?_
      refine TO.val rfl rfl rfl (Val.load_row (p := 0) rfl ⟨_, rfl, rfl⟩ rfl rfl rfl) ?_
      refine TO.val rfl rfl rfl (Val.len_l h_c_Items (memS (mem0)) rfl rfl) ?_
      obtain ⟨c38, hc38⟩ : ∃ c : Bool, c = decide ((c_Items.length : Int) > 120) := ⟨_, rfl⟩
      refine TO.val rfl rfl rfl (Val.gtr hc38 rfl rfl) ?_
      refine TO.nil ?_
      cases c38 with
      | true =>
        replace hc38 := of_decide_eq_true hc38.symm
        rw [if_pos hc38] at h
        refine T.condT (fun a ha => ha.ev (.tmp 38) _ rfl) ?_
        refine T.seq ?_
        refine T.text rfl ?_
        refine TO.val rfl rfl rfl (Val.assign rfl) ?_
        refine TO.val rfl rfl rfl (Val.assign rfl) ?_
        refine TO.val rfl rfl rfl (Val.assign rfl) ?_
        refine TO.nil ?_
        refine T.ret ?_
        cases h
        exact ⟨rfl, _, rfl, ⟨(), rfl, (.drop .refl)⟩⟩
      | false =>
        replace hc38 := of_decide_eq_false hc38.symm
        rw [if_neg hc38] at h
        refine T.condF (fun a ha => ha.ev (.tmp 38) _ rfl) ?_
        refine T.skip ?_
        show T _ _ _ _ _ _
        apply T.join (r := r) (W := Unit) (fun (j : Unit) (w : Unit) => ⟨[], [(1, .ptr b1 0 3)], .row b1 3 [iv (c_Book_Signed), v_c_Book_Gatherings, v_c_Items] :: C⟩) h
        · intro j h
          refine T.seq ?_
          refine T.text rfl ?_
          refine TO.val rfl rfl rfl (Val.assign rfl) ?_
          refine TO.nil ?_
          refine T.block ?_
          show T _ _ _ _ _ _
          apply T.iter (r := j) (W := Unit) (fun (j : Int) (w : Unit) => ⟨[], [(1, .ptr b1 0 3), (8, iv ((all33.length : Int))), (9, iv (j))], .row b1 3 [iv (c_Book_Signed), v_c_Book_Gatherings, v_c_Items] :: C⟩) (w0 := ()) h
          · exact ⟨rfl, (keep_cons rfl (keep_cons rfl (keep_cons rfl keep_nil))), (.pick (p := 0) rfl .refl)⟩
          rintro i _ a h
          unfold P_r4_Check_L1 at h
          refine T.at (s' := ⟨[], [(1, .ptr b1 0 3), (8, iv ((all33.length : Int))), (9, iv (i))], .row b1 3 [iv (c_Book_Signed), v_c_Book_Gatherings, v_c_Items] :: C⟩) rfl ?_
          refine T.seq ?_
          refine T.seq ?_
          refine T.text rfl ?_
          refine TO.val rfl rfl rfl (Val.move rfl) ?_
          refine TO.val rfl rfl rfl (Val.faddr_ptr (fo := 2) rfl rfl rfl) ?_
          refine TO.val rfl rfl rfl (Val.load_row (p := 0) rfl ⟨_, rfl, rfl⟩ rfl rfl rfl) ?_
          refine TO.val rfl rfl rfl (Val.len_l h_c_Items (memS (mem0)) rfl rfl) ?_
          obtain ⟨c43, hc43⟩ : ∃ c : Bool, c = decide (i < (c_Items.length : Int)) := ⟨_, rfl⟩
          refine TO.val rfl rfl rfl (Val.lss hc43 rfl rfl) ?_
          refine TO.nil ?_
          cases c43 with
          | true =>
            replace hc43 := of_decide_eq_true hc43.symm
            rw [if_pos hc43] at h
            refine T.condT (fun a ha => ha.ev (.tmp 43) _ rfl) ?_
            refine T.skip ?_
            refine T.seq ?_
            refine T.block ?_
            refine T.seq ?_
            refine T.text rfl ?_
            refine TO.val rfl rfl rfl (Val.faddr_ptr (fo := 2) rfl rfl rfl) ?_
            refine TO.val rfl rfl rfl (Val.load_row (p := 0) rfl ⟨_, rfl, rfl⟩ rfl rfl rfl) ?_
            refine TO.val rfl rfl rfl (Val.move rfl) ?_
            obtain ⟨a49, hia49, ea49, h⟩ := el_some h
            refine TO.fact (rdl_at h_c_Items (memS (mem0)) hia49 ea49) (fun hp => ?_)
            obtain ⟨pa49, hpa49, hva49⟩ := hp
            refine TO.val rfl rfl rfl (hva49 ⟨rfl, rfl⟩ rfl rfl) ?_
            refine TO.val rfl rfl rfl (Val.load_es (c := [_]) hpa49 (memS (mem0)) ⟨⟨_, rfl, rfl⟩, rfl, by decide⟩ rfl rfl rfl) ?_
            refine TO.val rfl rfl rfl (Val.move rfl) ?_
            obtain ⟨y52, hr52, h⟩ := andx_some h
            refine TO.callT (first := []) (cap := []) (vs := [.agg [a49.could.v], iv ((all33.length : Int))]) rfl rfl rfl rfl rfl rfl (orcN rfl) (tf_r4_item (by first | decide | omega) (Rdl.mono (Rdl.gs (C := C) a49.could) (memS (mem0))) hr52) ?_
            rintro _
            refine TO.things (hs' := .row b1 3 [iv (c_Book_Signed), v_c_Book_Gatherings, v_c_Items] :: C) rfl ?_
            refine TO.val rfl rfl rfl (Val.assign rfl) ?_
            refine TO.nil ?_
            refine T.seq ?_
            refine T.text rfl ?_
            refine TO.val rfl rfl rfl (Val.move rfl) ?_
            obtain ⟨c54, hc54⟩ : ∃ c : Bool, c = decide (¬ y52 = 0) := ⟨_, rfl⟩
            refine TO.val rfl rfl rfl (Val.neq hc54 rfl rfl) ?_
            refine TO.nil ?_
            cases c54 with
            | true =>
              replace hc54 := of_decide_eq_true hc54.symm
              rw [if_pos hc54] at h
              refine T.condT (fun a ha => ha.ev (.tmp 54) _ rfl) ?_
              refine T.seq ?_
              refine T.text rfl ?_
              refine TO.val rfl rfl rfl (Val.move rfl) ?_
              refine TO.val rfl rfl rfl (Val.move rfl) ?_
              refine TO.val rfl rfl rfl (Val.assign rfl) ?_
              refine TO.val rfl rfl rfl (Val.assign rfl) ?_
              refine TO.val rfl rfl rfl (Val.assign rfl) ?_
              refine TO.nil ?_
              refine T.ret ?_
              cases h
              exact ⟨ret_ne, ⟨ret_ne, ⟨rfl, _, rfl, ⟨(), rfl, (.drop .refl)⟩⟩⟩⟩
            | false =>
              replace hc54 := of_decide_eq_false hc54.symm
              rw [if_neg hc54] at h
              refine T.condF (fun a ha => ha.ev (.tmp 54) _ rfl) ?_
              refine T.skip ?_
              refine T.text rfl ?_
              refine TO.val rfl rfl rfl (Val.move rfl) ?_
              obtain ⟨hk45, h⟩ := chk_some h
              refine TO.val rfl rfl rfl (Val.add rfl rfl hk45) ?_
              refine TO.val rfl rfl rfl (Val.assign rfl) ?_
              refine TO.nil ?_
              cases h
              exact ⟨rfl, (), ⟨rfl, (keep_cons rfl (keep_cons rfl (keep_cons rfl keep_nil))), (.pick (p := 0) rfl .refl)⟩⟩
          | false =>
            replace hc43 := of_decide_eq_false hc43.symm
            rw [if_neg hc43] at h
            refine T.condF (fun a ha => ha.ev (.tmp 43) _ rfl) ?_
            refine T.exit ?_
            cases h
            exact ⟨ex_ne, ⟨rfl, (), ⟨rfl, (keep_cons rfl keep_nil), (.pick (p := 0) rfl .refl)⟩⟩⟩
        · rintro _ _ h
          skip
          refine T.at (s' := ⟨[], [(1, .ptr b1 0 3)], .row b1 3 [iv (c_Book_Signed), v_c_Book_Gatherings, v_c_Items] :: C⟩) rfl ?_
          refine T.seq ?_
          refine T.text rfl ?_
          refine TO.val rfl rfl rfl (Val.assign rfl) ?_
          refine TO.nil ?_
          show T _ _ _ _ _ _
          apply T.join (r := r) (W := Unit) (fun (j : Unit) (w : Unit) => ⟨[], [], .row b1 3 [iv (c_Book_Signed), v_c_Book_Gatherings, v_c_Items] :: C⟩) h
          · intro j h
            refine T.seq ?_
            refine T.text rfl ?_
            refine TO.val rfl rfl rfl (Val.assign rfl) ?_
            refine TO.nil ?_
            refine T.block ?_
            show T _ _ _ _ _ _
            apply T.iter (r := j) (W := Unit) (fun (j : Int × Int) (w : Unit) => ⟨[], [(1, .ptr b1 0 3), (10, iv (j.1)), (11, iv (j.2))], .row b1 3 [iv (c_Book_Signed), v_c_Book_Gatherings, v_c_Items] :: C⟩) (w0 := ()) h
            · exact ⟨rfl, (keep_cons rfl (keep_cons rfl (keep_cons rfl keep_nil))), (.pick (p := 0) rfl .refl)⟩
            rintro ⟨doubts, i⟩ _ a h
            unfold P_r4_Check_L2 at h
            dsimp only at h
            refine T.at (s' := ⟨[], [(1, .ptr b1 0 3), (10, iv (doubts)), (11, iv (i))], .row b1 3 [iv (c_Book_Signed), v_c_Book_Gatherings, v_c_Items] :: C⟩) rfl ?_
            refine T.seq ?_
            refine T.seq ?_
            refine T.text rfl ?_
            refine TO.val rfl rfl rfl (Val.move rfl) ?_
            refine TO.val rfl rfl rfl (Val.faddr_ptr (fo := 2) rfl rfl rfl) ?_
            refine TO.val rfl rfl rfl (Val.load_row (p := 0) rfl ⟨_, rfl, rfl⟩ rfl rfl rfl) ?_
            refine TO.val rfl rfl rfl (Val.len_l h_c_Items (memS (mem0)) rfl rfl) ?_
            obtain ⟨c61, hc61⟩ : ∃ c : Bool, c = decide (i < (c_Items.length : Int)) := ⟨_, rfl⟩
            refine TO.val rfl rfl rfl (Val.lss hc61 rfl rfl) ?_
            refine TO.nil ?_
            cases c61 with
            | true =>
              replace hc61 := of_decide_eq_true hc61.symm
              rw [if_pos hc61] at h
              refine T.condT (fun a ha => ha.ev (.tmp 61) _ rfl) ?_
              refine T.skip ?_
              show T _ _ _ _ _ _
              apply T.join (r := a) (W := Unit) (fun (j : Int) (w : Unit) => ⟨[], [(1, .ptr b1 0 3), (10, iv (j)), (11, iv (i))], .row b1 3 [iv (c_Book_Signed), v_c_Book_Gatherings, v_c_Items] :: C⟩) h
              · intro j h
                refine T.block ?_
                show T _ _ _ _ _ _
                apply T.joinA (r := j) (W := Unit) (fun (j : Int) (w : Unit) => ⟨[], [(1, .ptr b1 0 3), (10, iv (j)), (11, iv (i))], .row b1 3 [iv (c_Book_Signed), v_c_Book_Gatherings, v_c_Items] :: C⟩) h
                · intro j h
                  refine T.seq ?_
                  refine T.text rfl ?_
                  refine TO.val rfl rfl rfl (Val.faddr_ptr (fo := 2) rfl rfl rfl) ?_
                  refine TO.val rfl rfl rfl (Val.load_row (p := 0) rfl ⟨_, rfl, rfl⟩ rfl rfl rfl) ?_
                  refine TO.val rfl rfl rfl (Val.move rfl) ?_
                  obtain ⟨a67, hia67, ea67, h⟩ := el_some h
                  refine TO.fact (rdl_at h_c_Items (memS (mem0)) hia67 ea67) (fun hp => ?_)
                  obtain ⟨pa67, hpa67, hva67⟩ := hp
                  refine TO.val rfl rfl rfl (hva67 ⟨rfl, rfl⟩ rfl rfl) ?_
                  refine TO.val rfl rfl rfl (Val.faddr_e (fo := 0) hpa67 rfl rfl rfl) ?_
                  refine TO.val rfl rfl rfl (Val.load_e (PtE.add hpa67 (by decide)) (memS (mem0)) ⟨_, rfl, rfl⟩ rfl rfl) ?_
                  refine TO.val rfl rfl rfl (Val.len_gs rfl rfl) ?_
                  obtain ⟨c71, hc71⟩ : ∃ c : Bool, c = decide ((a67.could.l.length : Int) > 1) := ⟨_, rfl⟩
                  refine TO.val rfl rfl rfl (Val.gtr hc71 rfl rfl) ?_
                  refine TO.nil ?_
                  cases c71 with
                  | true =>
                    replace hc71 := of_decide_eq_true hc71.symm
                    rw [if_pos hc71] at h
                    refine T.condT (fun a ha => ha.ev (.tmp 71) _ rfl) ?_
                    refine T.text rfl ?_
                    refine TO.val rfl rfl rfl (Val.move rfl) ?_
                    obtain ⟨hk73, h⟩ := chk_some h
                    refine TO.val rfl rfl rfl (Val.add rfl rfl hk73) ?_
                    refine TO.val rfl rfl rfl (Val.assign rfl) ?_
                    refine TO.nil ?_
                    cases h
                    exact ⟨rfl, (), ⟨rfl, (keep_cons rfl (keep_cons rfl (keep_cons rfl keep_nil))), (.pick (p := 0) rfl .refl)⟩⟩
                  | false =>
                    replace hc71 := of_decide_eq_false hc71.symm
                    rw [if_neg hc71] at h
                    refine T.condF (fun a ha => ha.ev (.tmp 71) _ rfl) ?_
                    refine T.skip ?_
                    cases h
                    exact ⟨rfl, (), ⟨rfl, (keep_cons rfl (keep_cons rfl (keep_cons rfl keep_nil))), (.pick (p := 0) rfl .refl)⟩⟩
                · rintro doubts_2 _ h
                  skip
                  refine T.at (s' := ⟨[], [(1, .ptr b1 0 3), (10, iv (doubts_2)), (11, iv (i))], .row b1 3 [iv (c_Book_Signed), v_c_Book_Gatherings, v_c_Items] :: C⟩) rfl ?_
                  refine T.seq ?_
                  refine T.text rfl ?_
                  refine TO.val rfl rfl rfl (Val.move rfl) ?_
                  obtain ⟨c75, hc75⟩ : ∃ c : Bool, c = decide (doubts_2 > 3) := ⟨_, rfl⟩
                  refine TO.val rfl rfl rfl (Val.gtr hc75 rfl rfl) ?_
                  refine TO.nil ?_
                  cases c75 with
                  | true =>
                    replace hc75 := of_decide_eq_true hc75.symm
                    rw [if_pos hc75] at h
                    refine T.condT (fun a ha => ha.ev (.tmp 75) _ rfl) ?_
                    refine T.seq ?_
                    refine T.text rfl ?_
                    refine TO.val rfl rfl rfl (Val.move rfl) ?_
                    refine TO.val rfl rfl rfl (Val.assign rfl) ?_
                    refine TO.val rfl rfl rfl (Val.assign rfl) ?_
                    refine TO.val rfl rfl rfl (Val.assign rfl) ?_
                    refine TO.nil ?_
                    refine T.ret ?_
                    cases h
                    exact ⟨ret_ne, ⟨ret_ne, ⟨ret_ne, ⟨rfl, _, rfl, ⟨(), rfl, (.drop .refl)⟩⟩⟩⟩⟩
                  | false =>
                    replace hc75 := of_decide_eq_false hc75.symm
                    rw [if_neg hc75] at h
                    refine T.condF (fun a ha => ha.ev (.tmp 75) _ rfl) ?_
                    refine T.skip ?_
                    cases h
                    exact ⟨rfl, (), ⟨rfl, (keep_cons rfl (keep_cons rfl (keep_cons rfl keep_nil))), (.pick (p := 0) rfl .refl)⟩⟩
              · rintro doubts_2 _ h
                skip
                refine T.at (s' := ⟨[], [(1, .ptr b1 0 3), (10, iv (doubts_2)), (11, iv (i))], .row b1 3 [iv (c_Book_Signed), v_c_Book_Gatherings, v_c_Items] :: C⟩) rfl ?_
                refine T.text rfl ?_
                refine TO.val rfl rfl rfl (Val.move rfl) ?_
                obtain ⟨hk63, h⟩ := chk_some h
                refine TO.val rfl rfl rfl (Val.add rfl rfl hk63) ?_
                refine TO.val rfl rfl rfl (Val.assign rfl) ?_
                refine TO.nil ?_
                cases h
                exact ⟨rfl, (), ⟨rfl, (keep_cons rfl (keep_cons rfl (keep_cons rfl keep_nil))), (.pick (p := 0) rfl .refl)⟩⟩
            | false =>
              replace hc61 := of_decide_eq_false hc61.symm
              rw [if_neg hc61] at h
              refine T.condF (fun a ha => ha.ev (.tmp 61) _ rfl) ?_
              refine T.exit ?_
              cases h
              exact ⟨ex_ne, ⟨rfl, (), ⟨rfl, keep_nil, (.pick (p := 0) rfl .refl)⟩⟩⟩
          · rintro _ _ h
            skip
            refine T.at (s' := ⟨[], [], .row b1 3 [iv (c_Book_Signed), v_c_Book_Gatherings, v_c_Items] :: C⟩) rfl ?_
            refine T.seq ?_
            refine T.text rfl ?_
            refine TO.val rfl rfl rfl (Val.assign rfl) ?_
            refine TO.val rfl rfl rfl (Val.assign rfl) ?_
            refine TO.val rfl rfl rfl (Val.assign rfl) ?_
            refine TO.nil ?_
            refine T.ret ?_
            cases h
            exact ⟨rfl, _, rfl, ⟨(), rfl, (.drop .refl)⟩⟩
theorem w_r4_Check (c_Book_Signed : Int) (c_Book_Gatherings : GS encG) (c_Items : GS encIt) (r : Int × Int × Int) (h : P_r4_Check c_Book_Signed c_Book_Gatherings.l c_Items.l = some r) : Comes (EL 4) 41 [.agg [iv (c_Book_Signed), c_Book_Gatherings.v, c_Items.v]] (.tuple [iv r.1, iv r.2.1, iv r.2.2]) :=
  TF.run (tf_r4_Check (Nat.le_refl _) (Rdl.gs c_Book_Gatherings) (Rdl.gs c_Items) h) fun w => (.tuple (.cons .lit (.cons .lit (.cons .lit .nil))))
set_option maxRecDepth 10000 in
theorem tf_r4_All {k : Nat} (hk : 0 ≤ k) {C : List Thing} {c_Book_Signed : Int} {v_c_Book_Gatherings : AV} {c_Book_Gatherings : List Gat} {v_c_Items : AV} {c_Items : List Item} (h_c_Book_Gatherings : Rdl C encG v_c_Book_Gatherings c_Book_Gatherings) (h_c_Items : Rdl C encIt v_c_Items c_Items) {r : (List (List Int)) × Bool} (h : P_r4_All c_Book_Signed c_Book_Gatherings c_Items = some r) :
    TF (EL k) 42 [.agg [iv (c_Book_Signed), v_c_Book_Gatherings, v_c_Items]] C (RepF (fun (w : AV × (List AV)) => w.1) (fun (w : AV × (List AV)) => nestH r.2 w.1 r.1 w.2 :: (seg encI w.2 r.1 ++ C))) := by
  unfold P_r4_All at h
  refine TF.enter (fn := Go.Proofs.Try.f42) rfl rfl rfl rfl rfl ?_
  refine T.seq ?_
  refine T.text rfl ?_
  refine TO.box (k := 3) (cells := [_, _, _]) rfl rfl rfl rfl rfl rfl rfl (fun b1 => ?_)
  refine TO.val rfl rfl rfl (Val.assign rfl) ?_
  refine TO.nil ?_
  refine T.seq ?_
  refine T.text rfl ?_
  refine TO.nilown (u := encI.u) ?_
  refine TO.fact (own_cellS (p := 0) rfl) (fun hot2 => ?_)
  refine TO.eff rfl rfl rfl (Eff.new (New.buildSlice (en := encAV) (l := [nilS]) (vs := [(_, _)]) (ws := [(_, [_])]) ⟨rfl, rfl⟩ rfl rfl rfl rfl (CellsL.cons hot2.1 CellsL.nil) rfl rfl)) ?_
  rintro _ _ ⟨v9_2, rfl, rfl⟩
  refine TO.less (Less.rowOwn (en := encAV) (l := [nilS]) (p := 0) rfl) ?_
  refine TO.things (hs' := ownL false (.slice v9_2 0 (List.flatMap encAV.f [nilS]).length true (List.length [nilS]) (List.length [nilS])) encAV [nilS] :: ownL true nilS encI [] :: .row b1 3 [iv (c_Book_Signed), v_c_Book_Gatherings, v_c_Items] :: C) rfl ?_
  refine TO.less (Pk.less (Pk.pick (p := 0) rfl (Pk.pick (p := 1) rfl (Pk.pick (p := 0) rfl Pk.refl)))) ?_
  refine TO.things (hs' := nestH false (.slice v9_2 0 (List.flatMap encAV.f [nilS]).length true (List.length [nilS]) (List.length [nilS])) [([] : List Int)] [nilS] :: .row b1 3 [iv (c_Book_Signed), v_c_Book_Gatherings, v_c_Items] :: (seg encI [nilS] [([] : List Int)] ++ C)) rfl ?_
  refine TO.val rfl rfl rfl (Val.assign rfl) ?_
  refine TO.nil ?_
  show T _ _ _ _ _ _
  apply T.joinA (r := r) (W := AV × (List AV)) (fun (j : (List (List Int)) × Bool) (w : AV × (List AV)) => ⟨[], [(3, w.1)], nestH j.2 w.1 j.1 w.2 :: .row b1 3 [iv (c_Book_Signed), v_c_Book_Gatherings, v_c_Items] :: (seg encI w.2 j.1 ++ C)⟩) h
  · intro j h
    refine T.seq ?_
    refine T.text rfl ?_
    refine TO.val rfl rfl rfl (Val.assign rfl) ?_
    refine TO.nil ?_
    refine T.block ?_
    show T _ _ _ _ _ _
    apply T.iter (r := j) (W := AV × (List AV)) (fun (j : Int × (List (List Int)) × Bool) (w : AV × (List AV)) => ⟨[], [(1, .ptr b1 0 3), (3, w.1), (4, iv (j.1))], nestH j.2.2 w.1 j.2.1 w.2 :: .row b1 3 [iv (c_Book_Signed), v_c_Book_Gatherings, v_c_Items] :: (seg encI w.2 j.2.1 ++ C)⟩) (w0 := ((.slice v9_2 0 (List.flatMap encAV.f [nilS]).length true (List.length [nilS]) (List.length [nilS])), [nilS])) h
    · exact ⟨rfl, (keep_cons rfl (keep_cons rfl (keep_cons rfl keep_nil))), (.pick (p := 0) rfl (.pick (p := 0) rfl .refl))⟩
    rintro ⟨i, l9, z⟩ ⟨vn4, wsn4⟩ a h
    unfold P_r4_All_L1 at h
    dsimp only at h
    refine T.at (s' := ⟨[], [(1, .ptr b1 0 3), (3, vn4), (4, iv (i))], nestH z vn4 l9 wsn4 :: .row b1 3 [iv (c_Book_Signed), v_c_Book_Gatherings, v_c_Items] :: (seg encI wsn4 l9 ++ C)⟩) rfl ?_
    refine T.seq ?_
    refine T.seq ?_
    refine T.text rfl ?_
    refine TO.val rfl rfl rfl (Val.move rfl) ?_
    refine TO.val rfl rfl rfl (Val.faddr_ptr (fo := 2) rfl rfl rfl) ?_
    refine TO.val rfl rfl rfl (Val.load_row (p := 1) rfl ⟨_, rfl, rfl⟩ rfl rfl rfl) ?_
    refine TO.val rfl rfl rfl (Val.len_l h_c_Items (memS (memS (memG (mem0)))) rfl rfl) ?_
    obtain ⟨c14, hc14⟩ : ∃ c : Bool, c = decide (i < (c_Items.length : Int)) := ⟨_, rfl⟩
    refine TO.val rfl rfl rfl (Val.lss hc14 rfl rfl) ?_
    refine TO.nil ?_
    cases c14 with
    | true =>
      replace hc14 := of_decide_eq_true hc14.symm
      rw [if_pos hc14] at h
      refine T.condT (fun a ha => ha.ev (.tmp 14) _ rfl) ?_
      refine T.skip ?_
      show T _ _ _ _ _ _
      apply T.joinA (r := a) (W := AV × (List AV)) (fun (j : (List (List Int))) (w : AV × (List AV)) => ⟨[], [(1, .ptr b1 0 3), (3, w.1), (4, iv (i))], nestH true w.1 j w.2 :: nestH z vn4 l9 wsn4 :: .row b1 3 [iv (c_Book_Signed), v_c_Book_Gatherings, v_c_Items] :: (seg encI w.2 j ++ (seg encI wsn4 l9 ++ C))⟩) h
      · intro j h
        refine T.block ?_
        refine T.seq ?_
        refine T.text rfl ?_
        refine TO.val rfl rfl rfl (Val.faddr_ptr (fo := 2) rfl rfl rfl) ?_
        refine TO.val rfl rfl rfl (Val.load_row (p := 1) rfl ⟨_, rfl, rfl⟩ rfl rfl rfl) ?_
        refine TO.val rfl rfl rfl (Val.move rfl) ?_
        obtain ⟨a20, hia20, ea20, h⟩ := el_some h
        refine TO.fact (rdl_at h_c_Items (memS (memS (memG (mem0)))) hia20 ea20) (fun hp => ?_)
        obtain ⟨pa20, hpa20, hva20⟩ := hp
        refine TO.val rfl rfl rfl (hva20 ⟨rfl, rfl⟩ rfl rfl) ?_
        refine TO.val rfl rfl rfl (Val.faddr_e (fo := 0) hpa20 rfl rfl rfl) ?_
        refine TO.val rfl rfl rfl (Val.load_e (PtE.add hpa20 (by decide)) (memS (memS (memG (mem0)))) ⟨_, rfl, rfl⟩ rfl rfl) ?_
        refine TO.val rfl rfl rfl (Val.assign rfl) ?_
        refine TO.nil ?_
        refine T.seq ?_
        refine T.seq ?_
        refine T.text rfl ?_
        refine TO.val rfl rfl rfl (Val.move rfl) ?_
        refine TO.val rfl rfl rfl (Val.len_gs rfl rfl) ?_
        obtain ⟨c25, hc25⟩ : ∃ c : Bool, c = decide ((a20.could.l.length : Int) = 0) := ⟨_, rfl⟩
        refine TO.val rfl rfl rfl (Val.eql hc25 rfl rfl) ?_
        refine TO.nil ?_
        cases c25 with
        | true =>
          replace hc25 := of_decide_eq_true hc25.symm
          rw [if_pos hc25] at h
          refine T.condT (fun a ha => ha.ev (.tmp 25) _ rfl) ?_
          refine T.text rfl ?_
          refine TO.build1 (en := encI) (a := (-1)) rfl rfl rfl ⟨rfl, rfl⟩ ⟨_, rfl, rfl⟩ (by decide) (by decide) rfl rfl (fun v26 => ?_)
          refine TO.val rfl rfl rfl (Val.assign rfl) ?_
          refine TO.nil ?_
          refine T.seq ?_
          refine T.text rfl ?_
          refine TO.val rfl rfl rfl (Val.assign rfl) ?_
          refine TO.nil ?_
          show T _ _ _ _ _ _
          apply T.joinA (r := j) (W := AV × (List AV)) (fun (j : (List (List Int))) (w : AV × (List AV)) => ⟨[], [(1, .ptr b1 0 3), (4, iv (i)), (6, w.1)], nestH true w.1 j w.2 :: ownL false v26 encI [(-1)] :: nestH z vn4 l9 wsn4 :: .row b1 3 [iv (c_Book_Signed), v_c_Book_Gatherings, v_c_Items] :: (seg encI w.2 j ++ (seg encI wsn4 l9 ++ C))⟩) h
          · intro j h
            refine T.seq ?_
            refine T.text rfl ?_
            refine TO.val rfl rfl rfl (Val.assign rfl) ?_
            refine TO.nil ?_
            refine T.block ?_
            refine T.nilown (u := 1) ?_
            refine T.things (hs' := nestH true nilS ([] : List (List Int)) [] :: ownL false v26 encI [(-1)] :: nestH z vn4 l9 wsn4 :: .row b1 3 [iv (c_Book_Signed), v_c_Book_Gatherings, v_c_Items] :: (seg encI [] ([] : List (List Int)) ++ (seg encI wsn4 l9 ++ C))) rfl ?_
            show T _ _ _ _ _ _
            apply T.iter (r := j) (W := AV × (List AV)) (fun (j : Int × (List (List Int))) (w : AV × (List AV)) => ⟨[], [(1, .ptr b1 0 3), (3, vn4), (4, iv (i)), (5, v26), (6, w.1), (7, iv (j.1))], nestH true w.1 j.2 w.2 :: ownL false v26 encI [(-1)] :: nestH z vn4 l9 wsn4 :: .row b1 3 [iv (c_Book_Signed), v_c_Book_Gatherings, v_c_Items] :: (seg encI w.2 j.2 ++ (seg encI wsn4 l9 ++ C))⟩) (w0 := (nilS, [])) h
            · exact ⟨rfl, (keep_cons rfl (keep_cons rfl (keep_cons rfl (keep_cons rfl (keep_cons rfl (keep_cons rfl keep_nil)))))), (.pick (p := 0) rfl (.pick (p := 0) rfl (.pick (p := 0) rfl (.pick (p := 0) rfl .refl))))⟩
            rintro ⟨k_, next⟩ ⟨vn8, wsn8⟩ a h
            unfold P_r4_All_L2 at h
            dsimp only at h
            refine T.at (s' := ⟨[], [(1, .ptr b1 0 3), (3, vn4), (4, iv (i)), (5, v26), (6, vn8), (7, iv (k_))], nestH true vn8 next wsn8 :: ownL false v26 encI [(-1)] :: nestH z vn4 l9 wsn4 :: .row b1 3 [iv (c_Book_Signed), v_c_Book_Gatherings, v_c_Items] :: (seg encI wsn8 next ++ (seg encI wsn4 l9 ++ C))⟩) rfl ?_
            refine T.seq ?_
            refine T.seq ?_
            refine T.text rfl ?_
            refine TO.val rfl rfl rfl (Val.move rfl) ?_
            refine TO.val rfl rfl rfl (Val.move rfl) ?_
            refine TO.val rfl rfl rfl (Val.len_nest (p := 2) rfl rfl rfl) ?_
            obtain ⟨c30, hc30⟩ : ∃ c : Bool, c = decide (k_ < (l9.length : Int)) := ⟨_, rfl⟩
            refine TO.val rfl rfl rfl (Val.lss hc30 rfl rfl) ?_
            refine TO.nil ?_
            cases c30 with
            | true =>
              replace hc30 := of_decide_eq_true hc30.symm
              rw [if_pos hc30] at h
              refine T.condT (fun a ha => ha.ev (.tmp 30) _ rfl) ?_
              refine T.skip ?_
              show T _ _ _ _ _ _
              apply T.joinA (r := a) (W := AV × (List AV)) (fun (j : (List (List Int))) (w : AV × (List AV)) => ⟨[], [(1, .ptr b1 0 3), (3, vn4), (4, iv (i)), (5, v26), (6, w.1), (7, iv (k_))], nestH true w.1 j w.2 :: ownL false v26 encI [(-1)] :: nestH z vn4 l9 wsn4 :: .row b1 3 [iv (c_Book_Signed), v_c_Book_Gatherings, v_c_Items] :: (seg encI w.2 j ++ (seg encI wsn4 l9 ++ C))⟩) h
              · intro j h
                refine T.block ?_
                refine T.seq ?_
                refine T.text rfl ?_
                refine TO.val rfl rfl rfl (Val.assign rfl) ?_
                refine TO.nil ?_
                refine T.block ?_
                show T _ _ _ _ _ _
                apply T.iter (r := j) (W := AV × (List AV)) (fun (j : Int × (List (List Int))) (w : AV × (List AV)) => ⟨[], [(1, .ptr b1 0 3), (3, vn4), (4, iv (i)), (5, v26), (6, w.1), (7, iv (k_)), (8, iv (j.1))], nestH true w.1 j.2 w.2 :: ownL false v26 encI [(-1)] :: nestH z vn4 l9 wsn4 :: .row b1 3 [iv (c_Book_Signed), v_c_Book_Gatherings, v_c_Items] :: (seg encI w.2 j.2 ++ (seg encI wsn4 l9 ++ C))⟩) (w0 := (vn8, wsn8)) h
                · exact ⟨rfl, (keep_cons rfl (keep_cons rfl (keep_cons rfl (keep_cons rfl (keep_cons rfl (keep_cons rfl (keep_cons rfl keep_nil))))))), (.pick (p := 0) rfl (.pick (p := 0) rfl (.pick (p := 0) rfl (.pick (p := 0) rfl .refl))))⟩
                rintro ⟨n, next_2⟩ ⟨vn8_2, wsn8_2⟩ a h
                unfold P_r4_All_L3 at h
                dsimp only at h
                refine T.at (s' := ⟨[], [(1, .ptr b1 0 3), (3, vn4), (4, iv (i)), (5, v26), (6, vn8_2), (7, iv (k_)), (8, iv (n))], nestH true vn8_2 next_2 wsn8_2 :: ownL false v26 encI [(-1)] :: nestH z vn4 l9 wsn4 :: .row b1 3 [iv (c_Book_Signed), v_c_Book_Gatherings, v_c_Items] :: (seg encI wsn8_2 next_2 ++ (seg encI wsn4 l9 ++ C))⟩) rfl ?_
                refine T.seq ?_
                refine T.seq ?_
                refine T.text rfl ?_
                refine TO.val rfl rfl rfl (Val.move rfl) ?_
                refine TO.val rfl rfl rfl (Val.move rfl) ?_
                refine TO.val rfl rfl rfl (Val.len_own (p := 1) rfl rfl rfl) ?_
                obtain ⟨c36, hc36⟩ : ∃ c : Bool, c = decide (n < ([(-1)].length : Int)) := ⟨_, rfl⟩
                refine TO.val rfl rfl rfl (Val.lss hc36 rfl rfl) ?_
                refine TO.nil ?_
                cases c36 with
                | true =>
                  replace hc36 := of_decide_eq_true hc36.symm
                  rw [if_pos hc36] at h
                  refine T.condT (fun a ha => ha.ev (.tmp 36) _ rfl) ?_
                  refine T.skip ?_
                  refine T.seq ?_
                  refine T.block ?_
                  refine T.drawE (l1 := [0, 1, 2, 3, 4, 5, 7, 8, 9, 10, 11]) (l2 := [6, 12, 13, 14, 15]) (by kernel_rfl) (by kernel_rfl) ?_
                  refine TD1.light rfl rfl rfl rfl (Val.move rfl) ?_
                  refine TD1.floatN rfl rfl rfl rfl (New.buildSlice (en := encI) (l := ([] : List Int)) (vs := []) (ws := []) ⟨rfl, rfl⟩ rfl rfl rfl rfl CellsL.nil rfl rfl) (fun v40 => ?_)
                  refine TD1.light rfl rfl rfl rfl (Val.move rfl) ?_
                  refine TD1.light rfl rfl rfl rfl (Val.move rfl) ?_
                  obtain ⟨a43, hia43, ea43, h⟩ := el_some h
                  refine TD1.fact (nest_at (en := encI) (p := 3) rfl hia43 ea43) (fun hp => ?_)
                  obtain ⟨ida43, wa43, ata43, ewa43, hma43⟩ := hp
                  refine TD1.light rfl rfl rfl rfl (Val.iaddr_nest ata43 ⟨rfl, rfl⟩ rfl rfl hia43) ?_
                  refine TD1.read rfl rfl rfl rfl (Val.load_nest (p := 3) rfl ata43 ⟨_, rfl, rfl⟩ rfl ewa43) ?_
                  have hna43 : Rdl (seg encI wsn8_2 next_2 ++ (seg encI wsn4 l9 ++ C)) encI wa43 a43 := .inr ⟨true, (List.mem_append_right _ (List.mem_append_left _ hma43))⟩
                  refine TD1.light rfl rfl rfl rfl (Val.move rfl) ?_
                  refine TD1.light rfl rfl rfl rfl (Val.move rfl) ?_
                  obtain ⟨a48, hia48, ea48, h⟩ := el_some h
                  refine TD1.fact (own_at (en := encI) (p := 2) rfl hia48) (fun hp => ?_)
                  obtain ⟨ida48, ata48⟩ := hp
                  refine TD1.light rfl rfl rfl rfl (Val.iaddr_at (en := encI) ata48 ⟨rfl, rfl⟩ rfl rfl hia48) ?_
                  refine TD1.read rfl rfl rfl rfl (Val.load_ownL (en := encI) (p := 2) (j := 0) rfl ata48 ⟨_, rfl, rfl⟩ rfl ea48 rfl) ?_
                  refine TD1.floatN rfl rfl rfl rfl (New.buildSlice (en := encI) (l := [a48]) (vs := [(_, _)]) (ws := [(_, [_])]) ⟨rfl, rfl⟩ rfl rfl rfl rfl (CellsL.cons rfl CellsL.nil) rfl rfl) (fun v50 => ?_)
                  refine TD1.over (fun v => sameC_refl v) (all_cons (⟨_, rfl, (Val.load_ownL (en := encI) (p := 3) (j := 0) rfl ata48 ⟨_, rfl, rfl⟩ rfl ea48 rfl)⟩) (all_cons (⟨_, rfl, (Val.load_nest (p := 4) rfl ata43 ⟨_, rfl, rfl⟩ rfl ewa43)⟩) all_nil)) ?_
                  refine TD2.less (Less.floatOwn (en := encI) (l := ([] : List Int)) (p := 1) rfl) ?_
                  refine TD2.things (hs' := .obj v50 (.row (List.flatMap encI.f [a48]) encI.u 0) :: ownL false (.slice v40 0 (List.flatMap encI.f ([] : List Int)).length true (List.length ([] : List Int)) (List.length ([] : List Int))) encI ([] : List Int) :: nestH true vn8_2 next_2 wsn8_2 :: ownL false v26 encI [(-1)] :: nestH z vn4 l9 wsn4 :: .row b1 3 [iv (c_Book_Signed), v_c_Book_Gatherings, v_c_Items] :: (seg encI wsn8_2 next_2 ++ (seg encI wsn4 l9 ++ C))) rfl ?_
                  obtain ⟨hk45, h⟩ := chk_some h
                  refine TD2.heavy (fun v => sameC_refl v) rfl (by decide) rfl rfl (OpS.eff (Eff.append_l (b := 8) (en := encI) (l := ([] : List Int)) (p := 1) ⟨rfl, rfl, rfl, ⟨_, rfl, rfl⟩, by decide, by decide⟩ rfl rfl rfl hna43 (memS (memS (memS (memS (memS (memS (mem0))))))) rfl rfl (flat_ones _) (by decide) hk45)) ?_
                  rintro v45 _ rfl
                  refine ⟨(all_cons (.inr ⟨_, rfl, (Val.load_ownL (en := encI) (p := 3) (j := 0) rfl ata48 ⟨_, rfl, rfl⟩ rfl ea48 rfl)⟩) (all_cons (.inl (by kernel_rfl)) all_nil)), (all_cons (.inr (by simp)) (all_cons (.inl (by kernel_rfl)) all_nil)), ?_⟩
                  refine TD2.things (hs' := .obj v50 (.row (List.flatMap encI.f [a48]) encI.u 0) :: ownL false v45 encI (([] : List Int) ++ a43) :: nestH true vn8_2 next_2 wsn8_2 :: ownL false v26 encI [(-1)] :: nestH z vn4 l9 wsn4 :: .row b1 3 [iv (c_Book_Signed), v_c_Book_Gatherings, v_c_Items] :: (seg encI wsn8_2 next_2 ++ (seg encI wsn4 l9 ++ C))) rfl ?_
                  refine TD2.less (Less.floatOwn (en := encI) (l := [a48]) (p := 0) rfl) ?_
                  refine TD2.things (hs' := ownL false (.slice v50 0 (List.flatMap encI.f [a48]).length true (List.length [a48]) (List.length [a48])) encI [a48] :: ownL false v45 encI (([] : List Int) ++ a43) :: nestH true vn8_2 next_2 wsn8_2 :: ownL false v26 encI [(-1)] :: nestH z vn4 l9 wsn4 :: .row b1 3 [iv (c_Book_Signed), v_c_Book_Gatherings, v_c_Items] :: (seg encI wsn8_2 next_2 ++ (seg encI wsn4 l9 ++ C))) rfl ?_
                  obtain ⟨hk51, h⟩ := chk_some h
                  refine TD2.heavy (fun v => sameC_refl v) rfl (by decide) rfl rfl (OpS.eff (Eff.append_own (b := 8) (en := encI) (l := (([] : List Int) ++ a43)) (l2 := [a48]) (p := 1) (q := 0) ⟨rfl, rfl, rfl, ⟨_, rfl, rfl⟩, by decide, by decide⟩ rfl rfl rfl rfl rfl rfl (flat_ones _) (by decide) hk51)) ?_
                  rintro v51 _ rfl
                  refine ⟨(all_cons (.inl (by kernel_rfl)) (all_cons (.inl (by kernel_rfl)) all_nil)), (all_cons (.inl (by kernel_rfl)) (all_cons (.inl (by kernel_rfl)) all_nil)), ?_⟩
                  refine TD2.things (hs' := ownL false (.slice v50 0 (List.flatMap encI.f [a48]).length true (List.length [a48]) (List.length [a48])) encI [a48] :: ownL false v51 encI ((([] : List Int) ++ a43) ++ [a48]) :: nestH true vn8_2 next_2 wsn8_2 :: ownL false v26 encI [(-1)] :: nestH z vn4 l9 wsn4 :: .row b1 3 [iv (c_Book_Signed), v_c_Book_Gatherings, v_c_Items] :: (seg encI wsn8_2 next_2 ++ (seg encI wsn4 l9 ++ C))) rfl ?_
                  refine TD2.less (Less.ownTrue (p := 1) rfl (.inr (by simp))) ?_
                  refine TD2.things (hs' := ownL false (.slice v50 0 (List.flatMap encI.f [a48]).length true (List.length [a48]) (List.length [a48])) encI [a48] :: ownL true v51 encI ((([] : List Int) ++ a43) ++ [a48]) :: nestH true vn8_2 next_2 wsn8_2 :: ownL false v26 encI [(-1)] :: nestH z vn4 l9 wsn4 :: .row b1 3 [iv (c_Book_Signed), v_c_Book_Gatherings, v_c_Items] :: (seg encI wsn8_2 next_2 ++ (seg encI wsn4 l9 ++ C))) rfl ?_
                  refine TD2.fact (own_cellS (p := 1) rfl) (fun hot9 => ?_)
                  refine TD2.heavy (fun v => sameC_refl v) rfl (by decide) rfl rfl (OpS.eff (Eff.new (New.buildSlice (en := encAV) (l := [v51]) (vs := [(_, _)]) (ws := [(_, [_])]) ⟨rfl, rfl⟩ rfl rfl rfl rfl (CellsL.cons hot9.1 CellsL.nil) rfl rfl))) ?_
                  rintro _ _ ⟨v52_2, rfl, rfl⟩
                  refine ⟨(all_cons (.inl (by kernel_rfl)) (all_cons (.inl (by kernel_rfl)) all_nil)), (all_cons (.inl (by kernel_rfl)) (all_cons (.inl (by kernel_rfl)) all_nil)), ?_⟩
                  refine TD2.less (Less.rowOwn (en := encAV) (l := [v51]) (p := 0) rfl) ?_
                  refine TD2.things (hs' := ownL false (.slice v52_2 0 (List.flatMap encAV.f [v51]).length true (List.length [v51]) (List.length [v51])) encAV [v51] :: ownL false (.slice v50 0 (List.flatMap encI.f [a48]).length true (List.length [a48]) (List.length [a48])) encI [a48] :: ownL true v51 encI ((([] : List Int) ++ a43) ++ [a48]) :: nestH true vn8_2 next_2 wsn8_2 :: ownL false v26 encI [(-1)] :: nestH z vn4 l9 wsn4 :: .row b1 3 [iv (c_Book_Signed), v_c_Book_Gatherings, v_c_Items] :: (seg encI wsn8_2 next_2 ++ (seg encI wsn4 l9 ++ C))) rfl ?_
                  refine TD2.less (Pk.less (Pk.pick (p := 0) rfl (Pk.pick (p := 0) rfl (Pk.pick (p := 1) rfl (Pk.pick (p := 1) rfl (Pk.pick (p := 1) rfl (Pk.pick (p := 1) rfl (Pk.pick (p := 0) rfl Pk.refl)))))))) ?_
                  refine TD2.things (hs' := nestH false (.slice v52_2 0 (List.flatMap encAV.f [v51]).length true (List.length [v51]) (List.length [v51])) [(([] : List Int) ++ a43) ++ [a48]] [v51] :: ownL false (.slice v50 0 (List.flatMap encI.f [a48]).length true (List.length [a48]) (List.length [a48])) encI [a48] :: nestH true vn8_2 next_2 wsn8_2 :: ownL false v26 encI [(-1)] :: nestH z vn4 l9 wsn4 :: .row b1 3 [iv (c_Book_Signed), v_c_Book_Gatherings, v_c_Items] :: (seg encI [v51] [(([] : List Int) ++ a43) ++ [a48]] ++ (seg encI wsn8_2 next_2 ++ (seg encI wsn4 l9 ++ C)))) rfl ?_
                  obtain ⟨hk53, h⟩ := chk_some h
                  refine TD2.fact (nest_len (p := 2) rfl) (fun hl53 => ?_)
                  refine TD2.fact (nest_len (p := 0) rfl) (fun hm53 => ?_)
                  refine TD2.heavy (fun v => sameC_refl v) rfl (by decide) rfl rfl (OpS.eff (Eff.append_nest (b := 24) (ls := next_2) (ls2 := [(([] : List Int) ++ a43) ++ [a48]]) (p := 2) (q := 0) ⟨rfl, rfl, rfl, ⟨_, rfl, rfl⟩, by decide, by decide⟩ rfl rfl rfl rfl rfl rfl (seg_ones (en := encI) hm53 (fun x hx => (memS (memS (memS (memS (memS (memS (mem0))))))) x (List.mem_append_left _ hx))) (by decide) hk53)) ?_
                  rintro v53 _ rfl
                  refine ⟨(all_cons (.inl (by kernel_rfl)) (all_cons (.inl (by kernel_rfl)) all_nil)), (all_cons (.inl (by kernel_rfl)) (all_cons (.inl (by kernel_rfl)) all_nil)), ?_⟩
                  refine TD2.things (hs' := [nestH false (.slice v52_2 0 (List.flatMap encAV.f [v51]).length true (List.length [v51]) (List.length [v51])) [(([] : List Int) ++ a43) ++ [a48]] [v51], ownL false (.slice v50 0 (List.flatMap encI.f [a48]).length true (List.length [a48]) (List.length [a48])) encI [a48], nestH true v53 (next_2 ++ [(([] : List Int) ++ a43) ++ [a48]]) (wsn8_2 ++ [v51]), ownL false v26 encI [(-1)], nestH z vn4 l9 wsn4, .row b1 3 [iv (c_Book_Signed), v_c_Book_Gatherings, v_c_Items]] ++ (seg encI [v51] [(([] : List Int) ++ a43) ++ [a48]] ++ (seg encI wsn8_2 next_2 ++ (seg encI wsn4 l9 ++ C)))) rfl ?_
                  refine TD2.less (Less.cat [nestH false (.slice v52_2 0 (List.flatMap encAV.f [v51]).length true (List.length [v51]) (List.length [v51])) [(([] : List Int) ++ a43) ++ [a48]] [v51], ownL false (.slice v50 0 (List.flatMap encI.f [a48]).length true (List.length [a48]) (List.length [a48])) encI [a48], nestH true v53 (next_2 ++ [(([] : List Int) ++ a43) ++ [a48]]) (wsn8_2 ++ [v51]), ownL false v26 encI [(-1)], nestH z vn4 l9 wsn4, .row b1 3 [iv (c_Book_Signed), v_c_Book_Gatherings, v_c_Items]] hl53) ?_
                  refine TD2.things (hs' := nestH false (.slice v52_2 0 (List.flatMap encAV.f [v51]).length true (List.length [v51]) (List.length [v51])) [(([] : List Int) ++ a43) ++ [a48]] [v51] :: ownL false (.slice v50 0 (List.flatMap encI.f [a48]).length true (List.length [a48]) (List.length [a48])) encI [a48] :: nestH true v53 (next_2 ++ [(([] : List Int) ++ a43) ++ [a48]]) (wsn8_2 ++ [v51]) :: ownL false v26 encI [(-1)] :: nestH z vn4 l9 wsn4 :: .row b1 3 [iv (c_Book_Signed), v_c_Book_Gatherings, v_c_Items] :: (seg encI (wsn8_2 ++ [v51]) (next_2 ++ [(([] : List Int) ++ a43) ++ [a48]]) ++ (seg encI wsn4 l9 ++ C))) rfl ?_
                  refine TD2.light rfl rfl rfl rfl (Val.assign rfl) ?_
                  refine TD2.nil ?_
                  refine T.text rfl ?_
                  refine TO.val rfl rfl rfl (Val.move rfl) ?_
                  obtain ⟨hk38, h⟩ := chk_some h
                  refine TO.val rfl rfl rfl (Val.add rfl rfl hk38) ?_
                  refine TO.val rfl rfl rfl (Val.assign rfl) ?_
                  refine TO.nil ?_
                  cases h
                  exact ⟨rfl, (v53, wsn8_2 ++ [v51]), ⟨rfl, (keep_cons rfl (keep_cons rfl (keep_cons rfl (keep_cons rfl (keep_cons rfl (keep_cons rfl (keep_cons rfl keep_nil))))))), (.pick (p := 2) rfl (.pick (p := 2) rfl (.pick (p := 2) rfl (.pick (p := 2) rfl (.drop (.drop .refl))))))⟩⟩
                | false =>
                  replace hc36 := of_decide_eq_false hc36.symm
                  rw [if_neg hc36] at h
                  refine T.condF (fun a ha => ha.ev (.tmp 36) _ rfl) ?_
                  refine T.exit ?_
                  cases h
                  exact ⟨ex_ne, ⟨rfl, (vn8_2, wsn8_2), ⟨rfl, (keep_cons rfl (keep_cons rfl (keep_cons rfl (keep_cons rfl (keep_cons rfl (keep_cons rfl keep_nil)))))), (.pick (p := 0) rfl (.pick (p := 0) rfl (.pick (p := 0) rfl (.pick (p := 0) rfl .refl))))⟩⟩⟩
              · rintro next_2 ⟨vn8_2, wsn8_2⟩ h
                skip
                refine T.at (s' := ⟨[], [(1, .ptr b1 0 3), (3, vn4), (4, iv (i)), (5, v26), (6, vn8_2), (7, iv (k_))], nestH true vn8_2 next_2 wsn8_2 :: ownL false v26 encI [(-1)] :: nestH z vn4 l9 wsn4 :: .row b1 3 [iv (c_Book_Signed), v_c_Book_Gatherings, v_c_Items] :: (seg encI wsn8_2 next_2 ++ (seg encI wsn4 l9 ++ C))⟩) rfl ?_
                refine T.text rfl ?_
                refine TO.val rfl rfl rfl (Val.move rfl) ?_
                obtain ⟨hk32, h⟩ := chk_some h
                refine TO.val rfl rfl rfl (Val.add rfl rfl hk32) ?_
                refine TO.val rfl rfl rfl (Val.assign rfl) ?_
                refine TO.nil ?_
                cases h
                exact ⟨rfl, (vn8_2, wsn8_2), ⟨rfl, (keep_cons rfl (keep_cons rfl (keep_cons rfl (keep_cons rfl (keep_cons rfl (keep_cons rfl keep_nil)))))), (.pick (p := 0) rfl (.pick (p := 0) rfl (.pick (p := 0) rfl (.pick (p := 0) rfl .refl))))⟩⟩
            | false =>
              replace hc30 := of_decide_eq_false hc30.symm
              rw [if_neg hc30] at h
              refine T.condF (fun a ha => ha.ev (.tmp 30) _ rfl) ?_
              refine T.exit ?_
              cases h
              exact ⟨ex_ne, ⟨rfl, (vn8, wsn8), ⟨rfl, (keep_cons rfl (keep_cons rfl (keep_cons rfl keep_nil))), (.pick (p := 0) rfl (.pick (p := 0) rfl (.pick (p := 0) rfl (.pick (p := 0) rfl .refl))))⟩⟩⟩
          · rintro next ⟨vn8, wsn8⟩ h
            skip
            refine T.at (s' := ⟨[], [(1, .ptr b1 0 3), (4, iv (i)), (6, vn8)], nestH true vn8 next wsn8 :: ownL false v26 encI [(-1)] :: nestH z vn4 l9 wsn4 :: .row b1 3 [iv (c_Book_Signed), v_c_Book_Gatherings, v_c_Items] :: (seg encI wsn8 next ++ (seg encI wsn4 l9 ++ C))⟩) rfl ?_
            refine T.text rfl ?_
            refine TO.val rfl rfl rfl (Val.move rfl) ?_
            refine TO.val rfl rfl rfl (Val.assign rfl) ?_
            refine TO.nil ?_
            cases h
            exact ⟨rfl, (vn8, wsn8), ⟨rfl, (keep_cons rfl (keep_cons rfl (keep_cons rfl keep_nil))), (.pick (p := 0) rfl (.pick (p := 1) rfl (.pick (p := 1) rfl (.drop .refl))))⟩⟩
        | false =>
          replace hc25 := of_decide_eq_false hc25.symm
          rw [if_neg hc25] at h
          refine T.condF (fun a ha => ha.ev (.tmp 25) _ rfl) ?_
          refine T.skip ?_
          refine T.seq ?_
          refine T.text rfl ?_
          refine TO.val rfl rfl rfl (Val.assign rfl) ?_
          refine TO.nil ?_
          show T _ _ _ _ _ _
          apply T.joinA (r := j) (W := AV × (List AV)) (fun (j : (List (List Int))) (w : AV × (List AV)) => ⟨[], [(1, .ptr b1 0 3), (4, iv (i)), (6, w.1)], nestH true w.1 j w.2 :: nestH z vn4 l9 wsn4 :: .row b1 3 [iv (c_Book_Signed), v_c_Book_Gatherings, v_c_Items] :: (seg encI w.2 j ++ (seg encI wsn4 l9 ++ C))⟩) h
          · intro j h
            refine T.seq ?_
            refine T.text rfl ?_
            refine TO.val rfl rfl rfl (Val.assign rfl) ?_
            refine TO.nil ?_
            refine T.block ?_
            refine T.nilown (u := 1) ?_
            refine T.things (hs' := nestH true nilS ([] : List (List Int)) [] :: nestH z vn4 l9 wsn4 :: .row b1 3 [iv (c_Book_Signed), v_c_Book_Gatherings, v_c_Items] :: (seg encI [] ([] : List (List Int)) ++ (seg encI wsn4 l9 ++ C))) rfl ?_
            show T _ _ _ _ _ _
            apply T.iter (r := j) (W := AV × (List AV)) (fun (j : Int × (List (List Int))) (w : AV × (List AV)) => ⟨[], [(1, .ptr b1 0 3), (3, vn4), (4, iv (i)), (5, a20.could.v), (6, w.1), (7, iv (j.1))], nestH true w.1 j.2 w.2 :: nestH z vn4 l9 wsn4 :: .row b1 3 [iv (c_Book_Signed), v_c_Book_Gatherings, v_c_Items] :: (seg encI w.2 j.2 ++ (seg encI wsn4 l9 ++ C))⟩) (w0 := (nilS, [])) h
            · exact ⟨rfl, (keep_cons rfl (keep_cons rfl (keep_cons rfl (keep_cons rfl (keep_cons rfl (keep_cons rfl keep_nil)))))), (.pick (p := 0) rfl (.pick (p := 0) rfl (.pick (p := 0) rfl .refl)))⟩
            rintro ⟨k_, next⟩ ⟨vn14, wsn14⟩ a h
            unfold P_r4_All_L4 at h
            dsimp only at h
            refine T.at (s' := ⟨[], [(1, .ptr b1 0 3), (3, vn4), (4, iv (i)), (5, a20.could.v), (6, vn14), (7, iv (k_))], nestH true vn14 next wsn14 :: nestH z vn4 l9 wsn4 :: .row b1 3 [iv (c_Book_Signed), v_c_Book_Gatherings, v_c_Items] :: (seg encI wsn14 next ++ (seg encI wsn4 l9 ++ C))⟩) rfl ?_
            refine T.seq ?_
            refine T.seq ?_
            refine T.text rfl ?_
            refine TO.val rfl rfl rfl (Val.move rfl) ?_
            refine TO.val rfl rfl rfl (Val.move rfl) ?_
            refine TO.val rfl rfl rfl (Val.len_nest (p := 1) rfl rfl rfl) ?_
            obtain ⟨c30, hc30⟩ : ∃ c : Bool, c = decide (k_ < (l9.length : Int)) := ⟨_, rfl⟩
            refine TO.val rfl rfl rfl (Val.lss hc30 rfl rfl) ?_
            refine TO.nil ?_
            cases c30 with
            | true =>
              replace hc30 := of_decide_eq_true hc30.symm
              rw [if_pos hc30] at h
              refine T.condT (fun a ha => ha.ev (.tmp 30) _ rfl) ?_
              refine T.skip ?_
              show T _ _ _ _ _ _
              apply T.joinA (r := a) (W := AV × (List AV)) (fun (j : (List (List Int))) (w : AV × (List AV)) => ⟨[], [(1, .ptr b1 0 3), (3, vn4), (4, iv (i)), (5, a20.could.v), (6, w.1), (7, iv (k_))], nestH true w.1 j w.2 :: nestH z vn4 l9 wsn4 :: .row b1 3 [iv (c_Book_Signed), v_c_Book_Gatherings, v_c_Items] :: (seg encI w.2 j ++ (seg encI wsn4 l9 ++ C))⟩) h
              · intro j h
                refine T.block ?_
                refine T.seq ?_
                refine T.text rfl ?_
                refine TO.val rfl rfl rfl (Val.assign rfl) ?_
                refine TO.nil ?_
                refine T.block ?_
                show T _ _ _ _ _ _
                apply T.iter (r := j) (W := AV × (List AV)) (fun (j : Int × (List (List Int))) (w : AV × (List AV)) => ⟨[], [(1, .ptr b1 0 3), (3, vn4), (4, iv (i)), (5, a20.could.v), (6, w.1), (7, iv (k_)), (8, iv (j.1))], nestH true w.1 j.2 w.2 :: nestH z vn4 l9 wsn4 :: .row b1 3 [iv (c_Book_Signed), v_c_Book_Gatherings, v_c_Items] :: (seg encI w.2 j.2 ++ (seg encI wsn4 l9 ++ C))⟩) (w0 := (vn14, wsn14)) h
                · exact ⟨rfl, (keep_cons rfl (keep_cons rfl (keep_cons rfl (keep_cons rfl (keep_cons rfl (keep_cons rfl (keep_cons rfl keep_nil))))))), (.pick (p := 0) rfl (.pick (p := 0) rfl (.pick (p := 0) rfl .refl)))⟩
                rintro ⟨n, next_2⟩ ⟨vn14_2, wsn14_2⟩ a h
                unfold P_r4_All_L5 at h
                dsimp only at h
                refine T.at (s' := ⟨[], [(1, .ptr b1 0 3), (3, vn4), (4, iv (i)), (5, a20.could.v), (6, vn14_2), (7, iv (k_)), (8, iv (n))], nestH true vn14_2 next_2 wsn14_2 :: nestH z vn4 l9 wsn4 :: .row b1 3 [iv (c_Book_Signed), v_c_Book_Gatherings, v_c_Items] :: (seg encI wsn14_2 next_2 ++ (seg encI wsn4 l9 ++ C))⟩) rfl ?_
                refine T.seq ?_
                refine T.seq ?_
                refine T.text rfl ?_
                refine TO.val rfl rfl rfl (Val.move rfl) ?_
                refine TO.val rfl rfl rfl (Val.move rfl) ?_
                refine TO.val rfl rfl rfl (Val.len_gs rfl rfl) ?_
                obtain ⟨c36, hc36⟩ : ∃ c : Bool, c = decide (n < (a20.could.l.length : Int)) := ⟨_, rfl⟩
                refine TO.val rfl rfl rfl (Val.lss hc36 rfl rfl) ?_
                refine TO.nil ?_
                cases c36 with
                | true =>
                  replace hc36 := of_decide_eq_true hc36.symm
                  rw [if_pos hc36] at h
                  refine T.condT (fun a ha => ha.ev (.tmp 36) _ rfl) ?_
                  refine T.skip ?_
                  refine T.seq ?_
                  refine T.block ?_
                  refine T.drawE (l1 := [0, 1, 2, 3, 4, 5, 7, 8, 9, 10, 11]) (l2 := [6, 12, 13, 14, 15]) (by kernel_rfl) (by kernel_rfl) ?_
                  refine TD1.light rfl rfl rfl rfl (Val.move rfl) ?_
                  refine TD1.floatN rfl rfl rfl rfl (New.buildSlice (en := encI) (l := ([] : List Int)) (vs := []) (ws := []) ⟨rfl, rfl⟩ rfl rfl rfl rfl CellsL.nil rfl rfl) (fun v40 => ?_)
                  refine TD1.light rfl rfl rfl rfl (Val.move rfl) ?_
                  refine TD1.light rfl rfl rfl rfl (Val.move rfl) ?_
                  obtain ⟨a43, hia43, ea43, h⟩ := el_some h
                  refine TD1.fact (nest_at (en := encI) (p := 2) rfl hia43 ea43) (fun hp => ?_)
                  obtain ⟨ida43, wa43, ata43, ewa43, hma43⟩ := hp
                  refine TD1.light rfl rfl rfl rfl (Val.iaddr_nest ata43 ⟨rfl, rfl⟩ rfl rfl hia43) ?_
                  refine TD1.read rfl rfl rfl rfl (Val.load_nest (p := 2) rfl ata43 ⟨_, rfl, rfl⟩ rfl ewa43) ?_
                  have hna43 : Rdl (seg encI wsn14_2 next_2 ++ (seg encI wsn4 l9 ++ C)) encI wa43 a43 := .inr ⟨true, (List.mem_append_right _ (List.mem_append_left _ hma43))⟩
                  refine TD1.light rfl rfl rfl rfl (Val.move rfl) ?_
                  refine TD1.light rfl rfl rfl rfl (Val.move rfl) ?_
                  obtain ⟨a48, hia48, ea48, h⟩ := el_some h
                  refine TD1.fact (rdl_at (Rdl.gs (C := C) a20.could) (memS (memS (memS (memS (memG (memG (mem0))))))) hia48 ea48) (fun hp => ?_)
                  obtain ⟨pa48, hpa48, hva48⟩ := hp
                  refine TD1.light rfl rfl rfl rfl (hva48 ⟨rfl, rfl⟩ rfl rfl) ?_
                  refine TD1.read rfl rfl rfl rfl (Val.load_e hpa48 (memS (memS (memS (memS (memG (memG (mem0))))))) ⟨_, rfl, rfl⟩ rfl rfl) ?_
                  refine TD1.floatN rfl rfl rfl rfl (New.buildSlice (en := encI) (l := [a48]) (vs := [(_, _)]) (ws := [(_, [_])]) ⟨rfl, rfl⟩ rfl rfl rfl rfl (CellsL.cons rfl CellsL.nil) rfl rfl) (fun v50 => ?_)
                  refine TD1.over (fun v => sameC_refl v) (all_cons (⟨_, rfl, (Val.load_e hpa48 (memS (memS (memS (memS (memS (memG (memG (mem0)))))))) ⟨_, rfl, rfl⟩ rfl rfl)⟩) (all_cons (⟨_, rfl, (Val.load_nest (p := 3) rfl ata43 ⟨_, rfl, rfl⟩ rfl ewa43)⟩) all_nil)) ?_
                  refine TD2.less (Less.floatOwn (en := encI) (l := ([] : List Int)) (p := 1) rfl) ?_
                  refine TD2.things (hs' := .obj v50 (.row (List.flatMap encI.f [a48]) encI.u 0) :: ownL false (.slice v40 0 (List.flatMap encI.f ([] : List Int)).length true (List.length ([] : List Int)) (List.length ([] : List Int))) encI ([] : List Int) :: nestH true vn14_2 next_2 wsn14_2 :: nestH z vn4 l9 wsn4 :: .row b1 3 [iv (c_Book_Signed), v_c_Book_Gatherings, v_c_Items] :: (seg encI wsn14_2 next_2 ++ (seg encI wsn4 l9 ++ C))) rfl ?_
                  obtain ⟨hk45, h⟩ := chk_some h
                  refine TD2.heavy (fun v => sameC_refl v) rfl (by decide) rfl rfl (OpS.eff (Eff.append_l (b := 8) (en := encI) (l := ([] : List Int)) (p := 1) ⟨rfl, rfl, rfl, ⟨_, rfl, rfl⟩, by decide, by decide⟩ rfl rfl rfl hna43 (memS (memS (memS (memS (memS (mem0)))))) rfl rfl (flat_ones _) (by decide) hk45)) ?_
                  rintro v45 _ rfl
                  refine ⟨(all_cons (.inr ⟨_, rfl, (Val.load_e hpa48 (memS (memS (memS (memS (memS (memG (memG (mem0)))))))) ⟨_, rfl, rfl⟩ rfl rfl)⟩) (all_cons (.inl (by kernel_rfl)) all_nil)), (all_cons (.inr (by simp)) (all_cons (.inl (by kernel_rfl)) all_nil)), ?_⟩
                  refine TD2.things (hs' := .obj v50 (.row (List.flatMap encI.f [a48]) encI.u 0) :: ownL false v45 encI (([] : List Int) ++ a43) :: nestH true vn14_2 next_2 wsn14_2 :: nestH z vn4 l9 wsn4 :: .row b1 3 [iv (c_Book_Signed), v_c_Book_Gatherings, v_c_Items] :: (seg encI wsn14_2 next_2 ++ (seg encI wsn4 l9 ++ C))) rfl ?_
                  refine TD2.less (Less.floatOwn (en := encI) (l := [a48]) (p := 0) rfl) ?_
                  refine TD2.things (hs' := ownL false (.slice v50 0 (List.flatMap encI.f [a48]).length true (List.length [a48]) (List.length [a48])) encI [a48] :: ownL false v45 encI (([] : List Int) ++ a43) :: nestH true vn14_2 next_2 wsn14_2 :: nestH z vn4 l9 wsn4 :: .row b1 3 [iv (c_Book_Signed), v_c_Book_Gatherings, v_c_Items] :: (seg encI wsn14_2 next_2 ++ (seg encI wsn4 l9 ++ C))) rfl ?_
                  obtain ⟨hk51, h⟩ := chk_some h
                  refine TD2.heavy (fun v => sameC_refl v) rfl (by decide) rfl rfl (OpS.eff (Eff.append_own (b := 8) (en := encI) (l := (([] : List Int) ++ a43)) (l2 := [a48]) (p := 1) (q := 0) ⟨rfl, rfl, rfl, ⟨_, rfl, rfl⟩, by decide, by decide⟩ rfl rfl rfl rfl rfl rfl (flat_ones _) (by decide) hk51)) ?_
                  rintro v51 _ rfl
                  refine ⟨(all_cons (.inl (by kernel_rfl)) (all_cons (.inl (by kernel_rfl)) all_nil)), (all_cons (.inl (by kernel_rfl)) (all_cons (.inl (by kernel_rfl)) all_nil)), ?_⟩
                  refine TD2.things (hs' := ownL false (.slice v50 0 (List.flatMap encI.f [a48]).length true (List.length [a48]) (List.length [a48])) encI [a48] :: ownL false v51 encI ((([] : List Int) ++ a43) ++ [a48]) :: nestH true vn14_2 next_2 wsn14_2 :: nestH z vn4 l9 wsn4 :: .row b1 3 [iv (c_Book_Signed), v_c_Book_Gatherings, v_c_Items] :: (seg encI wsn14_2 next_2 ++ (seg encI wsn4 l9 ++ C))) rfl ?_
                  refine TD2.less (Less.ownTrue (p := 1) rfl (.inr (by simp))) ?_
                  refine TD2.things (hs' := ownL false (.slice v50 0 (List.flatMap encI.f [a48]).length true (List.length [a48]) (List.length [a48])) encI [a48] :: ownL true v51 encI ((([] : List Int) ++ a43) ++ [a48]) :: nestH true vn14_2 next_2 wsn14_2 :: nestH z vn4 l9 wsn4 :: .row b1 3 [iv (c_Book_Signed), v_c_Book_Gatherings, v_c_Items] :: (seg encI wsn14_2 next_2 ++ (seg encI wsn4 l9 ++ C))) rfl ?_
                  refine TD2.fact (own_cellS (p := 1) rfl) (fun hot15 => ?_)
                  refine TD2.heavy (fun v => sameC_refl v) rfl (by decide) rfl rfl (OpS.eff (Eff.new (New.buildSlice (en := encAV) (l := [v51]) (vs := [(_, _)]) (ws := [(_, [_])]) ⟨rfl, rfl⟩ rfl rfl rfl rfl (CellsL.cons hot15.1 CellsL.nil) rfl rfl))) ?_
                  rintro _ _ ⟨v52_2, rfl, rfl⟩
                  refine ⟨(all_cons (.inl (by kernel_rfl)) (all_cons (.inl (by kernel_rfl)) all_nil)), (all_cons (.inl (by kernel_rfl)) (all_cons (.inl (by kernel_rfl)) all_nil)), ?_⟩
                  refine TD2.less (Less.rowOwn (en := encAV) (l := [v51]) (p := 0) rfl) ?_
                  refine TD2.things (hs' := ownL false (.slice v52_2 0 (List.flatMap encAV.f [v51]).length true (List.length [v51]) (List.length [v51])) encAV [v51] :: ownL false (.slice v50 0 (List.flatMap encI.f [a48]).length true (List.length [a48]) (List.length [a48])) encI [a48] :: ownL true v51 encI ((([] : List Int) ++ a43) ++ [a48]) :: nestH true vn14_2 next_2 wsn14_2 :: nestH z vn4 l9 wsn4 :: .row b1 3 [iv (c_Book_Signed), v_c_Book_Gatherings, v_c_Items] :: (seg encI wsn14_2 next_2 ++ (seg encI wsn4 l9 ++ C))) rfl ?_
                  refine TD2.less (Pk.less (Pk.pick (p := 0) rfl (Pk.pick (p := 0) rfl (Pk.pick (p := 1) rfl (Pk.pick (p := 1) rfl (Pk.pick (p := 1) rfl (Pk.pick (p := 0) rfl Pk.refl))))))) ?_
                  refine TD2.things (hs' := nestH false (.slice v52_2 0 (List.flatMap encAV.f [v51]).length true (List.length [v51]) (List.length [v51])) [(([] : List Int) ++ a43) ++ [a48]] [v51] :: ownL false (.slice v50 0 (List.flatMap encI.f [a48]).length true (List.length [a48]) (List.length [a48])) encI [a48] :: nestH true vn14_2 next_2 wsn14_2 :: nestH z vn4 l9 wsn4 :: .row b1 3 [iv (c_Book_Signed), v_c_Book_Gatherings, v_c_Items] :: (seg encI [v51] [(([] : List Int) ++ a43) ++ [a48]] ++ (seg encI wsn14_2 next_2 ++ (seg encI wsn4 l9 ++ C)))) rfl ?_
                  obtain ⟨hk53, h⟩ := chk_some h
                  refine TD2.fact (nest_len (p := 2) rfl) (fun hl53 => ?_)
                  refine TD2.fact (nest_len (p := 0) rfl) (fun hm53 => ?_)
                  refine TD2.heavy (fun v => sameC_refl v) rfl (by decide) rfl rfl (OpS.eff (Eff.append_nest (b := 24) (ls := next_2) (ls2 := [(([] : List Int) ++ a43) ++ [a48]]) (p := 2) (q := 0) ⟨rfl, rfl, rfl, ⟨_, rfl, rfl⟩, by decide, by decide⟩ rfl rfl rfl rfl rfl rfl (seg_ones (en := encI) hm53 (fun x hx => (memS (memS (memS (memS (memS (mem0)))))) x (List.mem_append_left _ hx))) (by decide) hk53)) ?_
                  rintro v53 _ rfl
                  refine ⟨(all_cons (.inl (by kernel_rfl)) (all_cons (.inl (by kernel_rfl)) all_nil)), (all_cons (.inl (by kernel_rfl)) (all_cons (.inl (by kernel_rfl)) all_nil)), ?_⟩
                  refine TD2.things (hs' := [nestH false (.slice v52_2 0 (List.flatMap encAV.f [v51]).length true (List.length [v51]) (List.length [v51])) [(([] : List Int) ++ a43) ++ [a48]] [v51], ownL false (.slice v50 0 (List.flatMap encI.f [a48]).length true (List.length [a48]) (List.length [a48])) encI [a48], nestH true v53 (next_2 ++ [(([] : List Int) ++ a43) ++ [a48]]) (wsn14_2 ++ [v51]), nestH z vn4 l9 wsn4, .row b1 3 [iv (c_Book_Signed), v_c_Book_Gatherings, v_c_Items]] ++ (seg encI [v51] [(([] : List Int) ++ a43) ++ [a48]] ++ (seg encI wsn14_2 next_2 ++ (seg encI wsn4 l9 ++ C)))) rfl ?_
                  refine TD2.less (Less.cat [nestH false (.slice v52_2 0 (List.flatMap encAV.f [v51]).length true (List.length [v51]) (List.length [v51])) [(([] : List Int) ++ a43) ++ [a48]] [v51], ownL false (.slice v50 0 (List.flatMap encI.f [a48]).length true (List.length [a48]) (List.length [a48])) encI [a48], nestH true v53 (next_2 ++ [(([] : List Int) ++ a43) ++ [a48]]) (wsn14_2 ++ [v51]), nestH z vn4 l9 wsn4, .row b1 3 [iv (c_Book_Signed), v_c_Book_Gatherings, v_c_Items]] hl53) ?_
                  refine TD2.things (hs' := nestH false (.slice v52_2 0 (List.flatMap encAV.f [v51]).length true (List.length [v51]) (List.length [v51])) [(([] : List Int) ++ a43) ++ [a48]] [v51] :: ownL false (.slice v50 0 (List.flatMap encI.f [a48]).length true (List.length [a48]) (List.length [a48])) encI [a48] :: nestH true v53 (next_2 ++ [(([] : List Int) ++ a43) ++ [a48]]) (wsn14_2 ++ [v51]) :: nestH z vn4 l9 wsn4 :: .row b1 3 [iv (c_Book_Signed), v_c_Book_Gatherings, v_c_Items] :: (seg encI (wsn14_2 ++ [v51]) (next_2 ++ [(([] : List Int) ++ a43) ++ [a48]]) ++ (seg encI wsn4 l9 ++ C))) rfl ?_
                  refine TD2.light rfl rfl rfl rfl (Val.assign rfl) ?_
                  refine TD2.nil ?_
                  refine T.text rfl ?_
                  refine TO.val rfl rfl rfl (Val.move rfl) ?_
                  obtain ⟨hk38, h⟩ := chk_some h
                  refine TO.val rfl rfl rfl (Val.add rfl rfl hk38) ?_
                  refine TO.val rfl rfl rfl (Val.assign rfl) ?_
                  refine TO.nil ?_
                  cases h
                  exact ⟨rfl, (v53, wsn14_2 ++ [v51]), ⟨rfl, (keep_cons rfl (keep_cons rfl (keep_cons rfl (keep_cons rfl (keep_cons rfl (keep_cons rfl (keep_cons rfl keep_nil))))))), (.pick (p := 2) rfl (.pick (p := 2) rfl (.pick (p := 2) rfl (.drop (.drop .refl)))))⟩⟩
                | false =>
                  replace hc36 := of_decide_eq_false hc36.symm
                  rw [if_neg hc36] at h
                  refine T.condF (fun a ha => ha.ev (.tmp 36) _ rfl) ?_
                  refine T.exit ?_
                  cases h
                  exact ⟨ex_ne, ⟨rfl, (vn14_2, wsn14_2), ⟨rfl, (keep_cons rfl (keep_cons rfl (keep_cons rfl (keep_cons rfl (keep_cons rfl (keep_cons rfl keep_nil)))))), (.pick (p := 0) rfl (.pick (p := 0) rfl (.pick (p := 0) rfl .refl)))⟩⟩⟩
              · rintro next_2 ⟨vn14_2, wsn14_2⟩ h
                skip
                refine T.at (s' := ⟨[], [(1, .ptr b1 0 3), (3, vn4), (4, iv (i)), (5, a20.could.v), (6, vn14_2), (7, iv (k_))], nestH true vn14_2 next_2 wsn14_2 :: nestH z vn4 l9 wsn4 :: .row b1 3 [iv (c_Book_Signed), v_c_Book_Gatherings, v_c_Items] :: (seg encI wsn14_2 next_2 ++ (seg encI wsn4 l9 ++ C))⟩) rfl ?_
                refine T.text rfl ?_
                refine TO.val rfl rfl rfl (Val.move rfl) ?_
                obtain ⟨hk32, h⟩ := chk_some h
                refine TO.val rfl rfl rfl (Val.add rfl rfl hk32) ?_
                refine TO.val rfl rfl rfl (Val.assign rfl) ?_
                refine TO.nil ?_
                cases h
                exact ⟨rfl, (vn14_2, wsn14_2), ⟨rfl, (keep_cons rfl (keep_cons rfl (keep_cons rfl (keep_cons rfl (keep_cons rfl (keep_cons rfl keep_nil)))))), (.pick (p := 0) rfl (.pick (p := 0) rfl (.pick (p := 0) rfl .refl)))⟩⟩
            | false =>
              replace hc30 := of_decide_eq_false hc30.symm
              rw [if_neg hc30] at h
              refine T.condF (fun a ha => ha.ev (.tmp 30) _ rfl) ?_
              refine T.exit ?_
              cases h
              exact ⟨ex_ne, ⟨rfl, (vn14, wsn14), ⟨rfl, (keep_cons rfl (keep_cons rfl (keep_cons rfl keep_nil))), (.pick (p := 0) rfl (.pick (p := 0) rfl (.pick (p := 0) rfl .refl)))⟩⟩⟩
          · rintro next ⟨vn14, wsn14⟩ h
            skip
            refine T.at (s' := ⟨[], [(1, .ptr b1 0 3), (4, iv (i)), (6, vn14)], nestH true vn14 next wsn14 :: nestH z vn4 l9 wsn4 :: .row b1 3 [iv (c_Book_Signed), v_c_Book_Gatherings, v_c_Items] :: (seg encI wsn14 next ++ (seg encI wsn4 l9 ++ C))⟩) rfl ?_
            refine T.text rfl ?_
            refine TO.val rfl rfl rfl (Val.move rfl) ?_
            refine TO.val rfl rfl rfl (Val.assign rfl) ?_
            refine TO.nil ?_
            cases h
            exact ⟨rfl, (vn14, wsn14), ⟨rfl, (keep_cons rfl (keep_cons rfl (keep_cons rfl keep_nil))), (.pick (p := 0) rfl (.pick (p := 0) rfl (.pick (p := 0) rfl .refl)))⟩⟩
      · rintro next ⟨vn8, wsn8⟩ h
        skip
        refine T.at (s' := ⟨[], [(1, .ptr b1 0 3), (3, vn8), (4, iv (i))], nestH true vn8 next wsn8 :: nestH z vn4 l9 wsn4 :: .row b1 3 [iv (c_Book_Signed), v_c_Book_Gatherings, v_c_Items] :: (seg encI wsn8 next ++ (seg encI wsn4 l9 ++ C))⟩) rfl ?_
        refine T.text rfl ?_
        refine TO.val rfl rfl rfl (Val.move rfl) ?_
        obtain ⟨hk16, h⟩ := chk_some h
        refine TO.val rfl rfl rfl (Val.add rfl rfl hk16) ?_
        refine TO.val rfl rfl rfl (Val.assign rfl) ?_
        refine TO.nil ?_
        cases h
        exact ⟨rfl, (vn8, wsn8), ⟨rfl, (keep_cons rfl (keep_cons rfl (keep_cons rfl keep_nil))), (.pick (p := 0) rfl (.pick (p := 1) rfl (.drop (.consA (.dropA .refl)))))⟩⟩
    | false =>
      replace hc14 := of_decide_eq_false hc14.symm
      rw [if_neg hc14] at h
      refine T.condF (fun a ha => ha.ev (.tmp 14) _ rfl) ?_
      refine T.exit ?_
      cases h
      exact ⟨ex_ne, ⟨rfl, (vn4, wsn4), ⟨rfl, (keep_cons rfl keep_nil), (.pick (p := 0) rfl (.pick (p := 0) rfl .refl))⟩⟩⟩
  · rintro ⟨l9, z⟩ ⟨vn4, wsn4⟩ h
    dsimp only at h
    refine T.at (s' := ⟨[], [(3, vn4)], nestH z vn4 l9 wsn4 :: .row b1 3 [iv (c_Book_Signed), v_c_Book_Gatherings, v_c_Items] :: (seg encI wsn4 l9 ++ C)⟩) rfl ?_
    refine T.seq ?_
    refine T.text rfl ?_
    refine TO.val rfl rfl rfl (Val.move rfl) ?_
    refine TO.val rfl rfl rfl (Val.assign rfl) ?_
    refine TO.nil ?_
    refine T.ret ?_
    cases h
    exact ⟨rfl, _, rfl, ⟨(vn4, wsn4), rfl, (.pick (p := 0) rfl (.drop .refl))⟩⟩
theorem w_r4_All (c_Book_Signed : Int) (c_Book_Gatherings : GS encG) (c_Items : GS encIt) (r : (List (List Int)) × Bool) (h : P_r4_All c_Book_Signed c_Book_Gatherings.l c_Items.l = some r) : Comes (EL 0) 42 [.agg [iv (c_Book_Signed), c_Book_Gatherings.v, c_Items.v]] ((GSo r.2 (encSl encI) (List.map (GSo true encI) r.1)).v) :=
  TF.run (tf_r4_All (Nat.le_refl _) (Rdl.gs c_Book_Gatherings) (Rdl.gs c_Items) h) fun w => (.nest (p := 0) encI_lits rfl (fun x hx => (memS (mem0)) x (List.mem_append_left _ hx)))
set_option maxRecDepth 10000 in
theorem tf_r4_Divided {k : Nat} (hk : 5 ≤ k) {C : List Thing} {b_Signed : Int} {v_b_Gatherings : AV} {b_Gatherings : List Gat} {v_one : AV} {one : List Item} {v_other : AV} {other : List Item} (h_b_Gatherings : Rdl C encG v_b_Gatherings b_Gatherings) (h_one : Rdl C encIt v_one one) (h_other : Rdl C encIt v_other other) {r : (List Int) × Int} (h : P_r4_Divided b_Signed b_Gatherings one other = some r) :
    TF (EL k) 12 [.agg [iv (b_Signed), v_b_Gatherings], v_one, v_other] C (RepF (fun (w : AV) => .tuple [w, iv r.2]) (fun (w : AV) => ownL true w encI r.1 :: C)) := by
  unfold P_r4_Divided at h
  refine TF.enter (fn := Go.Proofs.Try.f12) rfl rfl rfl rfl rfl ?_
  refine T.seq ?_
  refine T.text rfl ?_
  refine TO.box (k := 2) (cells := [_, _]) rfl rfl rfl rfl rfl rfl rfl (fun b3 => ?_)
  refine TO.val rfl rfl rfl (Val.assign rfl) ?_
  refine TO.val rfl rfl rfl (Val.assign rfl) ?_
  refine TO.nil ?_
  refine T.seq ?_
  refine T.text rfl ?_
  refine TO.val rfl rfl rfl (Val.load_rows (p := 0) (c := [_, _]) rfl ⟨⟨_, rfl, rfl⟩, rfl, by decide⟩ rfl rfl rfl rfl) ?_
  refine TO.val rfl rfl rfl (Val.move rfl) ?_
  refine TO.fact (rdl_cellS h_one (memS (mem0))) (fun hoone => ?_)
  refine TO.val rfl rfl rfl (Val.buildC (cs := [_, _, _]) (vs := [(_, _), (_, _)]) (ws := [(_, [_, _]), (_, [_])]) rfl rfl (CellsL.cons rfl (CellsL.cons hoone.1 CellsL.nil)) rfl) ?_
  obtain ⟨⟨y20, y20_2, y20_3⟩, hr20, h⟩ := andx_some h
  dsimp only at h
  obtain ⟨g, hgg, hrg⟩ := Rdl.reif (hs := .row b3 2 [iv (b_Signed), v_b_Gatherings] :: C) h_b_Gatherings (memS (mem0)) (ReifL.flat encG_tr)
  obtain ⟨g_2, hgg_2, hrg_2⟩ := Rdl.reif (hs := .row b3 2 [iv (b_Signed), v_b_Gatherings] :: C) h_one (memS (mem0)) (ReifL.flat encIt_tr)
  refine TO.call rfl rfl rfl rfl rfl (orcL rfl (by first | decide | omega)) (.cons (.agg (.cons .lit (.cons (hrg _) (.cons (hrg_2 _) .nil)))) .nil) (sem_of (w_r4_Check b_Signed g g_2 _ (by try rw [hgg]; try rw [hgg_2]; exact hr20))) ?_
  refine TO.val rfl rfl rfl (Val.move rfl) ?_
  refine TO.val rfl rfl rfl (Val.extract rfl rfl) ?_
  refine TO.val rfl rfl rfl (Val.extract rfl rfl) ?_
  refine TO.val rfl rfl rfl (Val.extract rfl rfl) ?_
  refine TO.val rfl rfl rfl (Val.assign rfl) ?_
  refine TO.val rfl rfl rfl (Val.assign rfl) ?_
  refine TO.val rfl rfl rfl (Val.assign rfl) ?_
  refine TO.nil ?_
  refine T.seq ?_
  refine T.seq ?_
  refine T.text rfl ?_
  refine TO.val rfl rfl rfl (Val.move rfl) ?_
  obtain ⟨c25, hc25⟩ : ∃ c : Bool, c = decide (¬ y20_3 = 0) := ⟨_, rfl⟩
  refine TO.val rfl rfl rfl (Val.neq hc25 rfl rfl) ?_
  refine TO.nil ?_
  cases c25 with
  | true =>
    replace hc25 := of_decide_eq_true hc25.symm
    rw [if_pos hc25] at h
    refine T.condT (fun a ha => ha.ev (.tmp 25) _ rfl) ?_
    refine T.seq ?_
    refine T.text rfl ?_
    refine TO.val rfl rfl rfl (Val.move rfl) ?_
    refine TO.val rfl rfl rfl (Val.assign rfl) ?_
    refine TO.val rfl rfl rfl (Val.assign rfl) ?_
    refine TO.nil ?_
    refine T.nilown (u := encI.u) ?_
    refine T.ret ?_
    cases h
    exact ⟨rfl, _, rfl, ⟨nilS, rfl, (.pick (p := 0) rfl (.drop .refl))⟩⟩
  | false =>
    replace hc25 := of_decide_eq_false hc25.symm
    rw [if_neg hc25] at h
    refine T.condF (fun a ha => ha.ev (.tmp 25) _ rfl) ?_
    refine T.skip ?_
    refine T.seq ?_
    refine T.text rfl ?_
    refine TO.val rfl rfl rfl (Val.load_rows (p := 0) (c := [_, _]) rfl ⟨⟨_, rfl, rfl⟩, rfl, by decide⟩ rfl rfl rfl rfl) ?_
    refine TO.val rfl rfl rfl (Val.move rfl) ?_
    refine TO.fact (rdl_cellS h_other (memS (mem0))) (fun hoother => ?_)
    refine TO.val rfl rfl rfl (Val.buildC (cs := [_, _, _]) (vs := [(_, _), (_, _)]) (ws := [(_, [_, _]), (_, [_])]) rfl rfl (CellsL.cons rfl (CellsL.cons hoother.1 CellsL.nil)) rfl) ?_
    obtain ⟨⟨y31, y31_2, y31_3⟩, hr31, h⟩ := andx_some h
    dsimp only at h
    obtain ⟨g_3, hgg_3, hrg_3⟩ := Rdl.reif (hs := .row b3 2 [iv (b_Signed), v_b_Gatherings] :: C) h_b_Gatherings (memS (mem0)) (ReifL.flat encG_tr)
    obtain ⟨g_4, hgg_4, hrg_4⟩ := Rdl.reif (hs := .row b3 2 [iv (b_Signed), v_b_Gatherings] :: C) h_other (memS (mem0)) (ReifL.flat encIt_tr)
    refine TO.call rfl rfl rfl rfl rfl (orcL rfl (by first | decide | omega)) (.cons (.agg (.cons .lit (.cons (hrg_3 _) (.cons (hrg_4 _) .nil)))) .nil) (sem_of (w_r4_Check b_Signed g_3 g_4 _ (by try rw [hgg_3]; try rw [hgg_4]; exact hr31))) ?_
    refine TO.val rfl rfl rfl (Val.move rfl) ?_
    refine TO.val rfl rfl rfl (Val.extract rfl rfl) ?_
    refine TO.val rfl rfl rfl (Val.extract rfl rfl) ?_
    refine TO.val rfl rfl rfl (Val.extract rfl rfl) ?_
    refine TO.val rfl rfl rfl (Val.assign rfl) ?_
    refine TO.nil ?_
    refine T.seq ?_
    refine T.seq ?_
    refine T.text rfl ?_
    refine TO.val rfl rfl rfl (Val.move rfl) ?_
    obtain ⟨c36, hc36⟩ : ∃ c : Bool, c = decide (¬ y31_3 = 0) := ⟨_, rfl⟩
    refine TO.val rfl rfl rfl (Val.neq hc36 rfl rfl) ?_
    refine TO.nil ?_
    cases c36 with
    | true =>
      replace hc36 := of_decide_eq_true hc36.symm
      rw [if_pos hc36] at h
      refine T.condT (fun a ha => ha.ev (.tmp 36) _ rfl) ?_
      refine T.seq ?_
      refine T.text rfl ?_
      refine TO.val rfl rfl rfl (Val.move rfl) ?_
      refine TO.val rfl rfl rfl (Val.assign rfl) ?_
      refine TO.val rfl rfl rfl (Val.assign rfl) ?_
      refine TO.nil ?_
      refine T.nilown (u := encI.u) ?_
      refine T.ret ?_
      cases h
      exact ⟨rfl, _, rfl, ⟨nilS, rfl, (.pick (p := 0) rfl (.drop .refl))⟩⟩
    | false =>
      replace hc36 := of_decide_eq_false hc36.symm
      rw [if_neg hc36] at h
      refine T.condF (fun a ha => ha.ev (.tmp 36) _ rfl) ?_
      refine T.skip ?_
      refine T.seq ?_
      refine T.draw (fun v => sameC_refl v) (l1 := [0, 1, 2, 4, 5, 6]) (l2 := [3, 7, 8, 9]) (by kernel_rfl) (by kernel_rfl) ?_
      refine TO.val rfl rfl rfl (Val.load_rows (p := 0) (c := [_, _]) rfl ⟨⟨_, rfl, rfl⟩, rfl, by decide⟩ rfl rfl rfl rfl) ?_
      refine TO.val rfl rfl rfl (Val.move rfl) ?_
      refine TO.fact (rdl_cellS h_one (memS (mem0))) (fun hoone => ?_)
      refine TO.val rfl rfl rfl (Val.buildC (cs := [_, _, _]) (vs := [(_, _), (_, _)]) (ws := [(_, [_, _]), (_, [_])]) rfl rfl (CellsL.cons rfl (CellsL.cons hoone.1 CellsL.nil)) rfl) ?_
      refine TO.val rfl rfl rfl (Val.load_rows (p := 0) (c := [_, _]) rfl ⟨⟨_, rfl, rfl⟩, rfl, by decide⟩ rfl rfl rfl rfl) ?_
      refine TO.val rfl rfl rfl (Val.move rfl) ?_
      refine TO.fact (rdl_cellS h_other (memS (mem0))) (fun hoother => ?_)
      refine TO.val rfl rfl rfl (Val.buildC (cs := [_, _, _]) (vs := [(_, _), (_, _)]) (ws := [(_, [_, _]), (_, [_])]) rfl rfl (CellsL.cons rfl (CellsL.cons hoother.1 CellsL.nil)) rfl) ?_
      obtain ⟨⟨y41, y41_2⟩, hr41, h⟩ := andx_some h
      dsimp only at h
      obtain ⟨g_5, hgg_5, hrg_5⟩ := Rdl.reif (hs := .row b3 2 [iv (b_Signed), v_b_Gatherings] :: C) h_b_Gatherings (memS (mem0)) (ReifL.flat encG_tr)
      obtain ⟨g_6, hgg_6, hrg_6⟩ := Rdl.reif (hs := .row b3 2 [iv (b_Signed), v_b_Gatherings] :: C) h_one (memS (mem0)) (ReifL.flat encIt_tr)
      refine TO.call rfl rfl rfl rfl rfl (orcL rfl (by first | decide | omega)) (.cons (.agg (.cons .lit (.cons (hrg_5 _) (.cons (hrg_6 _) .nil)))) .nil) (sem_of (w_r4_All b_Signed g_5 g_6 _ (by try rw [hgg_5]; try rw [hgg_6]; exact hr41))) ?_
      obtain ⟨⟨y45, y45_2⟩, hr45, h⟩ := andx_some h
      dsimp only at h
      obtain ⟨g_7, hgg_7, hrg_7⟩ := Rdl.reif (hs := .row b3 2 [iv (b_Signed), v_b_Gatherings] :: C) h_b_Gatherings (memS (mem0)) (ReifL.flat encG_tr)
      obtain ⟨g_8, hgg_8, hrg_8⟩ := Rdl.reif (hs := .row b3 2 [iv (b_Signed), v_b_Gatherings] :: C) h_other (memS (mem0)) (ReifL.flat encIt_tr)
      refine TO.call rfl rfl rfl rfl rfl (orcL rfl (by first | decide | omega)) (.cons (.agg (.cons .lit (.cons (hrg_7 _) (.cons (hrg_8 _) .nil)))) .nil) (sem_of (w_r4_All b_Signed g_7 g_8 _ (by try rw [hgg_7]; try rw [hgg_8]; exact hr45))) ?_
      refine TO.val rfl rfl rfl (Val.assign rfl) ?_
      refine TO.val rfl rfl rfl (Val.assign rfl) ?_
      refine TO.nil ?_
      show T _ _ _ _ _ _
      apply T.join (r := r) (W := Unit) (fun (j : Unit) (w : Unit) => ⟨[], [(3, .ptr b3 0 2), (11, (GSo y41_2 (encSl encI) (List.map (GSo true encI) y41)).v), (12, (GSo y45_2 (encSl encI) (List.map (GSo true encI) y45)).v)], .row b3 2 [iv (b_Signed), v_b_Gatherings] :: C⟩) h
      · intro j h
        show T _ _ _ _ _ _
        apply T.joinA (r := j) (W := Unit) (fun (j : Bool) (w : Unit) => ⟨[], [(3, .ptr b3 0 2), (11, (GSo y41_2 (encSl encI) (List.map (GSo true encI) y41)).v), (12, (GSo y45_2 (encSl encI) (List.map (GSo true encI) y45)).v), (53, bv j)], .row b3 2 [iv (b_Signed), v_b_Gatherings] :: C⟩) h
        · intro j h
          refine T.text rfl ?_
          refine TO.val rfl rfl rfl (Val.move rfl) ?_
          refine TO.val rfl rfl rfl (Val.len_gs rfl rfl) ?_
          obtain ⟨c48, hc48⟩ : ∃ c : Bool, c = decide ((((GSo y41_2 (encSl encI) (List.map (GSo true encI) y41)).l).length : Int) > 1) := ⟨_, rfl⟩
          refine TO.val rfl rfl rfl (Val.gtr hc48 rfl rfl) ?_
          refine TO.val rfl rfl rfl (Val.move rfl) ?_
          cases c48 with
          | true =>
            replace hc48 := of_decide_eq_true hc48.symm
            rw [if_pos hc48] at h
            refine TO.off rfl rfl rfl ?_
            refine TO.off rfl rfl rfl ?_
            refine TO.off rfl rfl rfl ?_
            refine TO.val rfl rfl rfl (Val.pick rfl rfl rfl) ?_
            refine TO.nil ?_
            cases h
            exact ⟨rfl, (), ⟨rfl, (keep_cons rfl (keep_cons rfl (keep_cons rfl (keep_cons rfl keep_nil)))), (.pick (p := 0) rfl .refl)⟩⟩
          | false =>
            replace hc48 := of_decide_eq_false hc48.symm
            rw [if_neg hc48] at h
            refine TO.val rfl rfl rfl (Val.move rfl) ?_
            refine TO.val rfl rfl rfl (Val.len_gs rfl rfl) ?_
            obtain ⟨c52, hc52⟩ : ∃ c : Bool, c = decide ((((GSo y45_2 (encSl encI) (List.map (GSo true encI) y45)).l).length : Int) > 1) := ⟨_, rfl⟩
            refine TO.val rfl rfl rfl (Val.gtr hc52 rfl rfl) ?_
            refine TO.val rfl rfl rfl (Val.pick rfl rfl rfl) ?_
            refine TO.nil ?_
            subst hc52
            cases h
            exact ⟨rfl, (), ⟨rfl, (keep_cons rfl (keep_cons rfl (keep_cons rfl (keep_cons rfl keep_nil)))), (.pick (p := 0) rfl .refl)⟩⟩
        · rintro x53 _ h
          skip
          refine T.at (s' := ⟨[], [(3, .ptr b3 0 2), (11, (GSo y41_2 (encSl encI) (List.map (GSo true encI) y41)).v), (12, (GSo y45_2 (encSl encI) (List.map (GSo true encI) y45)).v), (53, bv x53)], .row b3 2 [iv (b_Signed), v_b_Gatherings] :: C⟩) rfl ?_
          cases x53 with
          | true =>
            rw [if_pos rfl] at h
            refine T.condT (fun a ha => ha.ev (.tmp 53) _ rfl) ?_
            refine T.seq ?_
            refine T.text rfl ?_
            refine TO.val rfl rfl rfl (Val.assign rfl) ?_
            refine TO.val rfl rfl rfl (Val.assign rfl) ?_
            refine TO.nil ?_
            refine T.nilown (u := encI.u) ?_
            refine T.ret ?_
            cases h
            exact ⟨ret_ne, ⟨rfl, _, rfl, ⟨nilS, rfl, (.pick (p := 0) rfl (.drop .refl))⟩⟩⟩
          | false =>
            rw [if_neg Bool.false_ne_true] at h
            refine T.condF (fun a ha => ha.ev (.tmp 53) _ rfl) ?_
            refine T.skip ?_
            cases h
            exact ⟨rfl, (), ⟨rfl, (keep_cons rfl (keep_cons rfl (keep_cons rfl keep_nil))), (.pick (p := 0) rfl .refl)⟩⟩
      · rintro _ _ h
        skip
        refine T.at (s' := ⟨[], [(3, .ptr b3 0 2), (11, (GSo y41_2 (encSl encI) (List.map (GSo true encI) y41)).v), (12, (GSo y45_2 (encSl encI) (List.map (GSo true encI) y45)).v)], .row b3 2 [iv (b_Signed), v_b_Gatherings] :: C⟩) rfl ?_
        refine T.seq ?_
        refine T.text rfl ?_
        refine TO.val rfl rfl rfl (Val.load_rows (p := 0) (c := [_, _]) rfl ⟨⟨_, rfl, rfl⟩, rfl, by decide⟩ rfl rfl rfl rfl) ?_
        obtain ⟨y55, hr55, h⟩ := andx_some h
        refine TO.callT (first := []) (cap := []) (vs := [.agg [iv (b_Signed), v_b_Gatherings]]) rfl rfl rfl rfl rfl rfl (orcN rfl) (tf_r4_Mates (by first | decide | omega) (Rdl.mono h_b_Gatherings (memS (mem0))) hr55) ?_
        rintro w55
        refine TO.things (hs' := ownL true w55 encI y55 :: .row b3 2 [iv (b_Signed), v_b_Gatherings] :: C) rfl ?_
        refine TO.val rfl rfl rfl (Val.assign rfl) ?_
        refine TO.nil ?_
        refine T.seq ?_
        refine T.text rfl ?_
        refine TO.val rfl rfl rfl (Val.assign rfl) ?_
        refine TO.nil ?_
        show T _ _ _ _ _ _
        apply T.join (r := r) (W := AV) (fun (j : (List Int)) (w : AV) => ⟨[], [(14, w)], ownL true w encI j :: ownL true w55 encI y55 :: C⟩) h
        · intro j h
          refine T.seq ?_
          refine T.text rfl ?_
          refine TO.val rfl rfl rfl (Val.assign rfl) ?_
          refine TO.nil ?_
          refine T.block ?_
          refine T.nilown (u := encI.u) ?_
          show T _ _ _ _ _ _
          apply T.iter (r := j) (W := AV) (fun (j : Int × (List Int)) (w : AV) => ⟨[], [(11, (GSo y41_2 (encSl encI) (List.map (GSo true encI) y41)).v), (12, (GSo y45_2 (encSl encI) (List.map (GSo true encI) y45)).v), (13, w55), (14, w), (15, iv (j.1))], ownL true w encI j.2 :: ownL true w55 encI y55 :: C⟩) (w0 := nilS) h
          · exact ⟨rfl, (keep_cons rfl (keep_cons rfl (keep_cons rfl (keep_cons rfl (keep_cons rfl keep_nil))))), (.pick (p := 0) rfl (.pick (p := 0) rfl (.drop .refl)))⟩
          rintro ⟨i, out⟩ v6 a h
          unfold P_r4_Divided_L1 at h
          dsimp only at h
          refine T.at (s' := ⟨[], [(11, (GSo y41_2 (encSl encI) (List.map (GSo true encI) y41)).v), (12, (GSo y45_2 (encSl encI) (List.map (GSo true encI) y45)).v), (13, w55), (14, v6), (15, iv (i))], ownL true v6 encI out :: ownL true w55 encI y55 :: C⟩) rfl ?_
          refine T.seq ?_
          refine T.seq ?_
          refine T.text rfl ?_
          refine TO.val rfl rfl rfl (Val.move rfl) ?_
          refine TO.val rfl rfl rfl (Val.move rfl) ?_
          refine TO.val rfl rfl rfl (Val.len_own (p := 1) rfl rfl rfl) ?_
          obtain ⟨c59, hc59⟩ : ∃ c : Bool, c = decide (i < (y55.length : Int)) := ⟨_, rfl⟩
          refine TO.val rfl rfl rfl (Val.lss hc59 rfl rfl) ?_
          refine TO.nil ?_
          cases c59 with
          | true =>
            replace hc59 := of_decide_eq_true hc59.symm
            rw [if_pos hc59] at h
            refine T.condT (fun a ha => ha.ev (.tmp 59) _ rfl) ?_
            refine T.skip ?_
            show T _ _ _ _ _ _
            apply T.join (r := a) (W := AV) (fun (j : (List Int)) (w : AV) => ⟨[], [(11, (GSo y41_2 (encSl encI) (List.map (GSo true encI) y41)).v), (12, (GSo y45_2 (encSl encI) (List.map (GSo true encI) y45)).v), (13, w55), (14, w), (15, iv (i))], ownL true w encI j :: ownL true w55 encI y55 :: C⟩) h
            · intro j h
              refine T.block ?_
              refine T.seq ?_
              refine T.seq ?_
              refine T.text rfl ?_
              refine TO.val rfl rfl rfl (Val.move rfl) ?_
              obtain ⟨a63, hia63, ea63, h⟩ := el_some h
              refine TO.fact (rdl_at (Rdl.gs (C := C) (GSo y41_2 (encSl encI) (List.map (GSo true encI) y41))) (memS (memS (mem0))) hia63 ea63) (fun hp => ?_)
              obtain ⟨pa63, hpa63, hva63⟩ := hp
              refine TO.val rfl rfl rfl (hva63 ⟨rfl, rfl⟩ rfl rfl) ?_
              refine TO.val rfl rfl rfl (Val.load_e hpa63 (memS (memS (mem0))) ⟨_, rfl, rfl⟩ rfl rfl) ?_
              refine TO.val rfl rfl rfl (Val.move rfl) ?_
              obtain ⟨has66, hr66, h⟩ := andx_some h
              refine TO.call rfl rfl rfl rfl rfl (orcL rfl (by first | decide | omega)) (.cons .gs (.cons .lit .nil)) (sem_of (w_r1_Has a63 i _ (by exact hr66))) ?_
              refine TO.val rfl rfl rfl (Val.not rfl) ?_
              refine TO.nil ?_
              cases has66 with
              | true =>
                rw [if_pos rfl] at h
                refine T.condF (fun a ha => ha.ev (.tmp 67) _ rfl) ?_
                refine T.skip ?_
                refine T.seq ?_
                refine T.seq ?_
                refine T.text rfl ?_
                refine TO.val rfl rfl rfl (Val.move rfl) ?_
                obtain ⟨a69, hia69, ea69, h⟩ := el_some h
                refine TO.fact (rdl_at (Rdl.gs (C := C) (GSo y45_2 (encSl encI) (List.map (GSo true encI) y45))) (memS (memS (mem0))) hia69 ea69) (fun hp => ?_)
                obtain ⟨pa69, hpa69, hva69⟩ := hp
                refine TO.val rfl rfl rfl (hva69 ⟨rfl, rfl⟩ rfl rfl) ?_
                refine TO.val rfl rfl rfl (Val.load_e hpa69 (memS (memS (mem0))) ⟨_, rfl, rfl⟩ rfl rfl) ?_
                refine TO.val rfl rfl rfl (Val.move rfl) ?_
                obtain ⟨has72, hr72, h⟩ := andx_some h
                refine TO.call rfl rfl rfl rfl rfl (orcL rfl (by first | decide | omega)) (.cons .gs (.cons .lit .nil)) (sem_of (w_r1_Has a69 i _ (by exact hr72))) ?_
                refine TO.nil ?_
                cases has72 with
                | true =>
                  rw [if_pos rfl] at h
                  refine T.condT (fun a ha => ha.ev (.tmp 72) _ rfl) ?_
                  refine T.seq ?_
                  refine T.text rfl ?_
                  refine TO.val rfl rfl rfl (Val.assign rfl) ?_
                  refine TO.val rfl rfl rfl (Val.assign rfl) ?_
                  refine TO.nil ?_
                  refine T.nilown (u := encI.u) ?_
                  refine T.ret ?_
                  cases h
                  exact ⟨ret_ne, ⟨ret_ne, ⟨ret_ne, ⟨rfl, _, rfl, ⟨nilS, rfl, (.pick (p := 0) rfl (.drop (.drop .refl)))⟩⟩⟩⟩⟩
                | false =>
                  rw [if_neg Bool.false_ne_true] at h
                  refine T.condF (fun a ha => ha.ev (.tmp 72) _ rfl) ?_
                  refine T.skip ?_
                  show T _ _ _ _ _ _
                  apply T.joinA (r := j) (W := Unit) (fun (j : Bool) (w : Unit) => ⟨[], [(11, (GSo y41_2 (encSl encI) (List.map (GSo true encI) y41)).v), (12, (GSo y45_2 (encSl encI) (List.map (GSo true encI) y45)).v), (13, w55), (14, v6), (15, iv (i)), (87, bv j)], ownL true v6 encI out :: ownL true w55 encI y55 :: C⟩) h
                  · intro j h
                    refine T.draw (fun v => sameC_refl v) (l1 := [0, 1, 2, 3, 4, 5, 6, 7, 8, 9, 10, 11, 12]) (l2 := [13, 14]) (by kernel_rfl) (by kernel_rfl) ?_
                    refine TO.val rfl rfl rfl (Val.move rfl) ?_
                    refine TO.val rfl rfl rfl (Val.move rfl) ?_
                    obtain ⟨a75, hia75, ea75, h⟩ := el_some h
                    refine TO.fact (own_at (en := encI) (p := 1) rfl hia75) (fun hp => ?_)
                    obtain ⟨ida75, ata75⟩ := hp
                    refine TO.val rfl rfl rfl (Val.iaddr_at (en := encI) ata75 ⟨rfl, rfl⟩ rfl rfl hia75) ?_
                    refine TO.val rfl rfl rfl (Val.load_ownL (en := encI) (p := 1) (j := 0) rfl ata75 ⟨_, rfl, rfl⟩ rfl ea75 rfl) ?_
                    obtain ⟨c77, hc77⟩ : ∃ c : Bool, c = decide (a75 ≥ 0) := ⟨_, rfl⟩
                    refine TO.val rfl rfl rfl (Val.geq hc77 rfl rfl) ?_
                    refine TO.val rfl rfl rfl (Val.move rfl) ?_
                    cases c77 with
                    | true =>
                      replace hc77 := of_decide_eq_true hc77.symm
                      rw [if_pos hc77] at h
                      refine TO.val rfl rfl rfl (Val.move rfl) ?_
                      obtain ⟨a80, hia80, ea80, h⟩ := el_some h
                      refine TO.fact (rdl_at (Rdl.gs (C := C) (GSo y45_2 (encSl encI) (List.map (GSo true encI) y45))) (memS (memS (mem0))) hia80 ea80) (fun hp => ?_)
                      obtain ⟨pa80, hpa80, hva80⟩ := hp
                      refine TO.val rfl rfl rfl (hva80 ⟨rfl, rfl⟩ rfl rfl) ?_
                      refine TO.val rfl rfl rfl (Val.load_e hpa80 (memS (memS (mem0))) ⟨_, rfl, rfl⟩ rfl rfl) ?_
                      refine TO.val rfl rfl rfl (Val.move rfl) ?_
                      refine TO.val rfl rfl rfl (Val.move rfl) ?_
                      obtain ⟨a84, hia84, ea84, h⟩ := el_some h
                      refine TO.fact (own_at (en := encI) (p := 1) rfl hia84) (fun hp => ?_)
                      obtain ⟨ida84, ata84⟩ := hp
                      refine TO.val rfl rfl rfl (Val.iaddr_at (en := encI) ata84 ⟨rfl, rfl⟩ rfl rfl hia84) ?_
                      refine TO.val rfl rfl rfl (Val.load_ownL (en := encI) (p := 1) (j := 0) rfl ata84 ⟨_, rfl, rfl⟩ rfl ea84 rfl) ?_
                      obtain ⟨has86, hr86, h⟩ := andx_some h
                      refine TO.call rfl rfl rfl rfl rfl (orcL rfl (by first | decide | omega)) (.cons .gs (.cons .lit .nil)) (sem_of (w_r1_Has a80 a84 _ (by exact hr86))) ?_
                      refine TO.val rfl rfl rfl (Val.pick rfl rfl rfl) ?_
                      refine TO.nil ?_
                      cases h
                      exact ⟨rfl, (), ⟨rfl, (keep_cons rfl (keep_cons rfl (keep_cons rfl (keep_cons rfl (keep_cons rfl (keep_cons rfl keep_nil)))))), (.pick (p := 0) rfl (.pick (p := 0) rfl .refl))⟩⟩
                    | false =>
                      replace hc77 := of_decide_eq_false hc77.symm
                      rw [if_neg hc77] at h
                      refine TO.off rfl rfl rfl ?_
                      refine TO.off rfl rfl rfl ?_
                      refine TO.off rfl rfl rfl ?_
                      refine TO.off rfl rfl rfl ?_
                      refine TO.off rfl rfl rfl ?_
                      refine TO.off rfl rfl rfl ?_
                      refine TO.off rfl rfl rfl ?_
                      refine TO.off rfl rfl rfl ?_
                      refine TO.val rfl rfl rfl (Val.pick rfl rfl rfl) ?_
                      refine TO.nil ?_
                      cases h
                      exact ⟨rfl, (), ⟨rfl, (keep_cons rfl (keep_cons rfl (keep_cons rfl (keep_cons rfl (keep_cons rfl (keep_cons rfl keep_nil)))))), (.pick (p := 0) rfl (.pick (p := 0) rfl .refl))⟩⟩
                  · rintro x87 _ h
                    skip
                    refine T.at (s' := ⟨[], [(11, (GSo y41_2 (encSl encI) (List.map (GSo true encI) y41)).v), (12, (GSo y45_2 (encSl encI) (List.map (GSo true encI) y45)).v), (13, w55), (14, v6), (15, iv (i)), (87, bv x87)], ownL true v6 encI out :: ownL true w55 encI y55 :: C⟩) rfl ?_
                    cases x87 with
                    | true =>
                      rw [if_pos rfl] at h
                      refine T.condT (fun a ha => ha.ev (.tmp 87) _ rfl) ?_
                      refine T.text rfl ?_
                      refine TO.val rfl rfl rfl (Val.move rfl) ?_
                      refine TO.val rfl rfl rfl (Val.move rfl) ?_
                      refine TO.build1 (en := encI) (a := i) rfl rfl rfl ⟨rfl, rfl⟩ ⟨_, rfl, rfl⟩ (by decide) (by decide) rfl rfl (fun v90 => ?_)
                      obtain ⟨hk91, h⟩ := chk_some h
                      refine TO.eff rfl rfl rfl (Eff.append_own (b := 8) (en := encI) (l := out) (l2 := [i]) (p := 1) (q := 0) ⟨rfl, rfl, rfl, ⟨_, rfl, rfl⟩, by decide, by decide⟩ rfl rfl rfl rfl rfl rfl (flat_ones _) (by decide) hk91) ?_
                      rintro v91 _ rfl
                      refine TO.things (hs' := ownL false v90 encI [i] :: ownL true v91 encI (out ++ [i]) :: ownL true w55 encI y55 :: C) rfl ?_
                      refine TO.val rfl rfl rfl (Val.assign rfl) ?_
                      refine TO.nil ?_
                      cases h
                      exact ⟨rfl, v91, ⟨rfl, (keep_cons rfl (keep_cons rfl (keep_cons rfl (keep_cons rfl (keep_cons rfl keep_nil))))), (.pick (p := 1) rfl (.pick (p := 1) rfl (.drop .refl)))⟩⟩
                    | false =>
                      rw [if_neg Bool.false_ne_true] at h
                      refine T.condF (fun a ha => ha.ev (.tmp 87) _ rfl) ?_
                      refine T.skip ?_
                      cases h
                      exact ⟨rfl, v6, ⟨rfl, (keep_cons rfl (keep_cons rfl (keep_cons rfl (keep_cons rfl (keep_cons rfl keep_nil))))), (.pick (p := 0) rfl (.pick (p := 0) rfl .refl))⟩⟩
              | false =>
                rw [if_neg Bool.false_ne_true] at h
                refine T.condT (fun a ha => ha.ev (.tmp 67) _ rfl) ?_
                refine T.exit ?_
                cases h
                exact ⟨rfl, v6, ⟨rfl, (keep_cons rfl (keep_cons rfl (keep_cons rfl (keep_cons rfl (keep_cons rfl keep_nil))))), (.pick (p := 0) rfl (.pick (p := 0) rfl .refl))⟩⟩
            · rintro out_2 v6_2 h
              skip
              refine T.at (s' := ⟨[], [(11, (GSo y41_2 (encSl encI) (List.map (GSo true encI) y41)).v), (12, (GSo y45_2 (encSl encI) (List.map (GSo true encI) y45)).v), (13, w55), (14, v6_2), (15, iv (i))], ownL true v6_2 encI out_2 :: ownL true w55 encI y55 :: C⟩) rfl ?_
              refine T.text rfl ?_
              refine TO.val rfl rfl rfl (Val.move rfl) ?_
              obtain ⟨hk61, h⟩ := chk_some h
              refine TO.val rfl rfl rfl (Val.add rfl rfl hk61) ?_
              refine TO.val rfl rfl rfl (Val.assign rfl) ?_
              refine TO.nil ?_
              cases h
              exact ⟨rfl, v6_2, ⟨rfl, (keep_cons rfl (keep_cons rfl (keep_cons rfl (keep_cons rfl (keep_cons rfl keep_nil))))), (.pick (p := 0) rfl (.pick (p := 0) rfl .refl))⟩⟩
          | false =>
            replace hc59 := of_decide_eq_false hc59.symm
            rw [if_neg hc59] at h
            refine T.condF (fun a ha => ha.ev (.tmp 59) _ rfl) ?_
            refine T.exit ?_
            cases h
            exact ⟨ex_ne, ⟨rfl, v6, ⟨rfl, (keep_cons rfl keep_nil), (.pick (p := 0) rfl (.pick (p := 0) rfl .refl))⟩⟩⟩
        · rintro out v6 h
          skip
          refine T.at (s' := ⟨[], [(14, v6)], ownL true v6 encI out :: ownL true w55 encI y55 :: C⟩) rfl ?_
          refine T.seq ?_
          refine T.text rfl ?_
          refine TO.val rfl rfl rfl (Val.move rfl) ?_
          refine TO.val rfl rfl rfl (Val.assign rfl) ?_
          refine TO.val rfl rfl rfl (Val.assign rfl) ?_
          refine TO.nil ?_
          refine T.ret ?_
          cases h
          exact ⟨rfl, _, rfl, ⟨v6, rfl, (.pick (p := 0) rfl (.drop .refl))⟩⟩
theorem w_r4_Divided (b_Signed : Int) (b_Gatherings : GS encG) (one : GS encIt) (other : GS encIt) (r : (List Int) × Int) (h : P_r4_Divided b_Signed b_Gatherings.l one.l other.l = some r) : Comes (EL 5) 12 [.agg [iv (b_Signed), b_Gatherings.v], one.v, other.v] (.tuple [(GSo true encI r.1).v, iv r.2]) :=
  TF.run (tf_r4_Divided (Nat.le_refl _) (Rdl.gs b_Gatherings) (Rdl.gs one) (Rdl.gs other) h) fun w => (.tuple (.cons (.ownL (en := encI) (p := 0) rfl (.lits encI_lits)) (.cons .lit .nil)))
end Go.Am.Ythckcbfijdambaa
end
section
namespace Go.Am
set_option linter.unusedVariables false
noncomputable def P_law_CopyDivides (b_Signed : Int) (b_Gatherings : List Gat) (one : List Item) (other : List Item) : Option Bool :=
  andx (P_c_Divided b_Signed b_Gatherings one other) fun (y15, y15_2) =>
    andx (P_r4_Divided b_Signed b_Gatherings one other) fun (y22, y22_2) =>
      andx (
        andx (P_r1_Ints y15 y22) fun same27 =>
          if same27 = true then
            if y15_2 = y22_2 then
              some true
            else
              some false
          else
            some false) fun x6 =>
        some x6
end Go.Am
end
section
namespace Go.Am.Ythckcbfijdambaa
open Go.Am Go.RowKit
set_option linter.unusedVariables false
set_option linter.unusedSimpArgs false
set_option maxRecDepth 10000 in
theorem tf_law_CopyDivides {k : Nat} (hk : 6 ≤ k) {C : List Thing} {b_Signed : Int} {v_b_Gatherings : AV} {b_Gatherings : List Gat} {v_one : AV} {one : List Item} {v_other : AV} {other : List Item} (h_b_Gatherings : Rdl C encG v_b_Gatherings b_Gatherings) (h_one : Rdl C encIt v_one one) (h_other : Rdl C encIt v_other other) {r : Bool} (h : P_law_CopyDivides b_Signed b_Gatherings one other = some r) :
    TF (EL k) 3 [.agg [iv (b_Signed), v_b_Gatherings], v_one, v_other] C (RepF (fun (w : Unit) => bv r) (fun (w : Unit) => C)) := by
  unfold P_law_CopyDivides at h
  refine TF.enter (fn := Go.Proofs.Try.f3) rfl rfl rfl rfl rfl ?_
  refine T.seq ?_
  refine T.text rfl ?_
  refine TO.box (k := 2) (cells := [_, _]) rfl rfl rfl rfl rfl rfl rfl (fun b3 => ?_)
  refine TO.val rfl rfl rfl (Val.assign rfl) ?_
  refine TO.nil ?_
  refine T.seq ?_
  refine T.text rfl ?_
  refine TO.val rfl rfl rfl (Val.load_rows (p := 0) (c := [_, _]) rfl ⟨⟨_, rfl, rfl⟩, rfl, by decide⟩ rfl rfl rfl rfl) ?_
  refine TO.val rfl rfl rfl (Val.move rfl) ?_
  refine TO.val rfl rfl rfl (Val.move rfl) ?_
  obtain ⟨⟨y15, y15_2⟩, hr15, h⟩ := andx_some h
  dsimp only at h
  obtain ⟨g, hgg, hrg⟩ := Rdl.reif (hs := .row b3 2 [iv (b_Signed), v_b_Gatherings] :: C) h_b_Gatherings (memS (mem0)) (ReifL.flat encG_tr)
  obtain ⟨g_2, hgg_2, hrg_2⟩ := Rdl.reif (hs := .row b3 2 [iv (b_Signed), v_b_Gatherings] :: C) h_one (memS (mem0)) (ReifL.flat encIt_tr)
  obtain ⟨g_3, hgg_3, hrg_3⟩ := Rdl.reif (hs := .row b3 2 [iv (b_Signed), v_b_Gatherings] :: C) h_other (memS (mem0)) (ReifL.flat encIt_tr)
  refine TO.call rfl rfl rfl rfl rfl (orcL rfl (by first | decide | omega)) (.cons (.agg (.cons .lit (.cons (hrg _) .nil))) (.cons (hrg_2 _) (.cons (hrg_3 _) .nil))) (sem_of (w_c_Divided b_Signed g g_2 g_3 _ (by try rw [hgg]; try rw [hgg_2]; try rw [hgg_3]; exact hr15))) ?_
  refine TO.val rfl rfl rfl (Val.move rfl) ?_
  refine TO.val rfl rfl rfl (Val.extract rfl rfl) ?_
  refine TO.val rfl rfl rfl (Val.extract rfl rfl) ?_
  refine TO.val rfl rfl rfl (Val.assign rfl) ?_
  refine TO.val rfl rfl rfl (Val.assign rfl) ?_
  refine TO.nil ?_
  refine T.seq ?_
  refine T.text rfl ?_
  refine TO.val rfl rfl rfl (Val.load_rows (p := 0) (c := [_, _]) rfl ⟨⟨_, rfl, rfl⟩, rfl, by decide⟩ rfl rfl rfl rfl) ?_
  refine TO.val rfl rfl rfl (Val.move rfl) ?_
  refine TO.val rfl rfl rfl (Val.move rfl) ?_
  obtain ⟨⟨y22, y22_2⟩, hr22, h⟩ := andx_some h
  dsimp only at h
  obtain ⟨g_4, hgg_4, hrg_4⟩ := Rdl.reif (hs := .row b3 2 [iv (b_Signed), v_b_Gatherings] :: C) h_b_Gatherings (memS (mem0)) (ReifL.flat encG_tr)
  obtain ⟨g_5, hgg_5, hrg_5⟩ := Rdl.reif (hs := .row b3 2 [iv (b_Signed), v_b_Gatherings] :: C) h_one (memS (mem0)) (ReifL.flat encIt_tr)
  obtain ⟨g_6, hgg_6, hrg_6⟩ := Rdl.reif (hs := .row b3 2 [iv (b_Signed), v_b_Gatherings] :: C) h_other (memS (mem0)) (ReifL.flat encIt_tr)
  refine TO.call rfl rfl rfl rfl rfl (orcL rfl (by first | decide | omega)) (.cons (.agg (.cons .lit (.cons (hrg_4 _) .nil))) (.cons (hrg_5 _) (.cons (hrg_6 _) .nil))) (sem_of (w_r4_Divided b_Signed g_4 g_5 g_6 _ (by try rw [hgg_4]; try rw [hgg_5]; try rw [hgg_6]; exact hr22))) ?_
  refine TO.val rfl rfl rfl (Val.move rfl) ?_
  refine TO.val rfl rfl rfl (Val.extract rfl rfl) ?_
  refine TO.val rfl rfl rfl (Val.extract rfl rfl) ?_
  refine TO.val rfl rfl rfl (Val.assign rfl) ?_
  refine TO.val rfl rfl rfl (Val.assign rfl) ?_
  refine TO.nil ?_
  show T _ _ _ _ _ _
  apply T.joinA (r := r) (W := Unit) (fun (j : Bool) (w : Unit) => ⟨[], [(6, bv j)], .row b3 2 [iv (b_Signed), v_b_Gatherings] :: C⟩) h
  · intro j h
    refine T.text rfl ?_
    refine TO.val rfl rfl rfl (Val.move rfl) ?_
    refine TO.val rfl rfl rfl (Val.move rfl) ?_
    obtain ⟨same27, hr27, h⟩ := andx_some h
    refine TO.call rfl rfl rfl rfl rfl (orcL rfl (by first | decide | omega)) (.cons .gs (.cons .gs .nil)) (sem_of (w_r1_Ints (GSo true encI y15) (GSo true encI y22) _ (by exact hr27))) ?_
    refine TO.val rfl rfl rfl (Val.move rfl) ?_
    cases same27 with
    | true =>
      rw [if_pos rfl] at h
      refine TO.val rfl rfl rfl (Val.move rfl) ?_
      refine TO.val rfl rfl rfl (Val.move rfl) ?_
      obtain ⟨c31, hc31⟩ : ∃ c : Bool, c = decide (y15_2 = y22_2) := ⟨_, rfl⟩
      refine TO.val rfl rfl rfl (Val.eql hc31 rfl rfl) ?_
      refine TO.val rfl rfl rfl (Val.pick rfl rfl rfl) ?_
      refine TO.val rfl rfl rfl (Val.move rfl) ?_
      cases c31 with
      | true =>
        replace hc31 := of_decide_eq_true hc31.symm
        rw [if_pos hc31] at h
        refine TO.call rfl rfl rfl rfl rfl orcA .nil rfl ?_
        refine TO.val rfl rfl rfl (Val.pick rfl rfl rfl) ?_
        refine TO.val rfl rfl rfl (Val.assign rfl) ?_
        refine TO.nil ?_
        cases h
        exact ⟨rfl, (), ⟨rfl, (keep_cons rfl keep_nil), (.pick (p := 0) rfl .refl)⟩⟩
      | false =>
        replace hc31 := of_decide_eq_false hc31.symm
        rw [if_neg hc31] at h
        refine TO.off rfl rfl rfl ?_
        refine TO.val rfl rfl rfl (Val.pick rfl rfl rfl) ?_
        refine TO.val rfl rfl rfl (Val.assign rfl) ?_
        refine TO.nil ?_
        cases h
        exact ⟨rfl, (), ⟨rfl, (keep_cons rfl keep_nil), (.pick (p := 0) rfl .refl)⟩⟩
    | false =>
      rw [if_neg Bool.false_ne_true] at h
      refine TO.off rfl rfl rfl ?_
      refine TO.off rfl rfl rfl ?_
      refine TO.off rfl rfl rfl ?_
      refine TO.val rfl rfl rfl (Val.pick rfl rfl rfl) ?_
      refine TO.val rfl rfl rfl (Val.move rfl) ?_
      refine TO.off rfl rfl rfl ?_
      refine TO.val rfl rfl rfl (Val.pick rfl rfl rfl) ?_
      refine TO.val rfl rfl rfl (Val.assign rfl) ?_
      refine TO.nil ?_
      cases h
      exact ⟨rfl, (), ⟨rfl, (keep_cons rfl keep_nil), (.pick (p := 0) rfl .refl)⟩⟩
  · rintro x6 _ h
    skip
    refine T.at (s' := ⟨[], [(6, bv x6)], .row b3 2 [iv (b_Signed), v_b_Gatherings] :: C⟩) rfl ?_
    refine T.ret ?_
    cases h
    exact ⟨rfl, _, rfl, ⟨(), rfl, (.drop .refl)⟩⟩
theorem w_law_CopyDivides (b_Signed : Int) (b_Gatherings : GS encG) (one : GS encIt) (other : GS encIt) (r : Bool) (h : P_law_CopyDivides b_Signed b_Gatherings.l one.l other.l = some r) : Comes (EL 6) 3 [.agg [iv (b_Signed), b_Gatherings.v], one.v, other.v] (bv r) :=
  TF.run (tf_law_CopyDivides (Nat.le_refl _) (Rdl.gs b_Gatherings) (Rdl.gs one) (Rdl.gs other) h) fun w => .lit
end Go.Am.Ythckcbfijdambaa
end
section
namespace Go.Am
open Go.RowKit
def Lifts (P : Program) (t : TypeId) {α : Type} (e : En α) : Prop :=
  ∀ (H : Type) (enc : TypeId × Value → H) (W : World) (base : Nat) (held : Bool) (fuel : Nat) (cs : List Value) (x : DataW H × List MemPlace),
    DataW.trod enc P W base (fun _ => true) held fuel t cs = some x → ∃ a : α, RelL (snapR W 0) (e.f a) cs
theorem Lifts.int {P : Program} {t : TypeId} (ht : P.underlying t = some (.int .i64)) : Lifts P t encI := by
  intro H enc W base held fuel cs x hx
  obtain ⟨n, rfl, _, _⟩ := DataW.trod_int ht hx
  exact ⟨n, .cons (.lit _) (.nil _)⟩
theorem snap_cell {W : World} {b off : Nat} {v : Value} (h : W.cell? ⟨b, off, none⟩ = some v) : ∃ c, (snapR W 0).imm b = some c ∧ c[off]? = some v := by
  unfold World.cell? at h
  split at h
  · rename_i c _ _ hb
    simp at h
    exact ⟨c, by simp only [snapR, snap, Nat.zero_le, if_true]; simp only [] at hb; rw [hb], h⟩
  · cases h
theorem list_of {α : Type} {p : Nat → α → Prop} : ∀ n : Nat, (∀ i, i < n → ∃ a, p i a) → ∃ l : List α, l.length = n ∧ ∀ i a, l[i]? = some a → p i a := by
  intro n
  induction n with
  | zero => intro _; exact ⟨[], rfl, fun i a h => by simp at h⟩
  | succ n ih =>
    intro h
    obtain ⟨l, h1, h2⟩ := ih fun i hi => h i (by omega)
    obtain ⟨a, ha⟩ := h n (by omega)
    refine ⟨l ++ [a], by simp [h1], fun i b hb => ?_⟩
    by_cases hi : i < l.length
    · rw [List.getElem?_append_left hi] at hb; exact h2 i b hb
    · rw [List.getElem?_append_right (by omega)] at hb
      have : i - l.length = 0 := by
        have := (List.getElem?_eq_some_iff.1 hb).1
        simp at this; omega
      rw [this] at hb
      simp at hb
      subst hb
      have : i = n := by omega
      rw [this]; exact ha
theorem Lifts.slice {P : Program} {t e : TypeId} {α : Type} {en : En α} (ht : P.underlying t = some (.slice e)) (hu : P.cellsOf e = en.u) (h0 : 0 < en.u) (h : Lifts P e en) : Lifts P t (encSl en) := by
  intro H enc W base held fuel cs x hx
  rcases DataW.trod_slice ht hx with ⟨rfl, _⟩ | ⟨a, len, cap, elems, rest, n, _, rfl, _, hb, hl, _, hlen, hel, hsp, _⟩
  · exact ⟨⟨nilS, [], .inl ⟨rfl, rfl, rfl⟩⟩, .cons (.lit _) (.nil _)⟩
  · rw [hu] at hel hsp
    obtain ⟨hrl, hr⟩ := hsp rfl
    by_cases hc : cap = 0
    · subst hc
      have : len = 0 := by omega
      subst this
      exact ⟨⟨.tree en.u 0 [], [], .inr ⟨rfl, by simp⟩⟩, .cons .tree0 (.nil _)⟩
    · have hcell : ∀ i, i < len → ∃ (a' : α) (ci : List Value), W.cells? base (a.add (i * en.u)) en.u = some ci ∧ RelL (snapR W 0) (en.f a') ci := by
        intro i hi
        have he := hel i hi
        rw [List.getElem?_eq_getElem (by omega)] at he
        obtain ⟨ci, h1, h2⟩ := Option.bind_eq_some_iff.1 he
        obtain ⟨a', h3⟩ := h _ _ _ _ _ _ _ _ h2
        exact ⟨a', ci, h1, h3⟩
      have hspot : a.spot = none := by
        have : ∃ ci, W.cells? base (a.add (0 * en.u)) en.u = some ci := by
          by_cases hl0 : 0 < len
          · obtain ⟨_, ci, h1, _⟩ := hcell 0 hl0
            exact ⟨ci, h1⟩
          · have hz : len = 0 := by omega
            have he := hr 0 (by omega)
            rw [List.getElem?_eq_getElem (by omega)] at he
            obtain ⟨ci, h1, _⟩ := Option.bind_eq_some_iff.1 he
            exact ⟨ci, by simpa [hz] using h1⟩
        obtain ⟨ci, h1⟩ := this
        obtain ⟨_, h2, h3⟩ := World.cells?_some h1
        have h4 := h3 0 h0
        rw [List.getElem?_eq_getElem (by omega)] at h4
        have := World.cell?_spot h4
        simpa [Addr.add] using this
      obtain ⟨b, off, sp⟩ := a
      simp only at hspot
      subst hspot
      obtain ⟨l, hl1, hl2⟩ := list_of (p := fun i a' => ∃ ci : List Value, W.cells? base ((⟨b, off, none⟩ : Addr).add (i * en.u)) en.u = some ci ∧ RelL (snapR W 0) (en.f a') ci) len hcell
      have hfl : (l.flatMap en.f).length = len * en.u := by rw [flat_len, hl1]
      have each : ∀ j, j < len * en.u → ∃ v y c, (l.flatMap en.f)[j]? = some v ∧ (snapR W 0).imm b = some c ∧ c[off + j]? = some y ∧ RelV (snapR W 0) v y := by
        intro j hj
        have hi : j / en.u < l.length := by rw [hl1]; exact Nat.div_lt_of_lt_mul (by rw [Nat.mul_comm]; exact hj)
        have hk : j % en.u < en.u := Nat.mod_lt _ h0
        have hd : j / en.u * en.u + j % en.u = j := by rw [Nat.mul_comm]; exact Nat.div_add_mod j en.u
        obtain ⟨ci, h1, h2⟩ := hl2 _ _ (List.getElem?_eq_getElem hi)
        obtain ⟨_, h3, h4⟩ := World.cells?_some h1
        have h5 := h4 _ hk
        rw [List.getElem?_eq_getElem (by omega)] at h5
        have h6 : ((⟨b, off, none⟩ : Addr).add (j / en.u * en.u)).add (j % en.u) = ⟨b, off + j, none⟩ := by
          simp only [addr_add]
          congr 1
          omega
        rw [h6] at h5
        obtain ⟨c, h7, h8⟩ := snap_cell h5
        have hlen' := en.len l[j / en.u]
        have hv := List.getElem?_eq_getElem (l := en.f l[j / en.u]) (i := j % en.u) (by omega)
        refine ⟨_, _, c, ?_, h7, h8, h2.2 _ _ _ hv (List.getElem?_eq_getElem _)⟩
        have := flat_get (en := en) (List.getElem?_eq_getElem hi) hk
        rw [hd] at this
        rw [this, hv]
      refine ⟨⟨.tree en.u l.length (l.flatMap en.f), l, .inr ⟨rfl, by rw [hfl, hl1]⟩⟩, .cons ?_ (.nil _)⟩
      show RelV _ (.tree en.u l.length (l.flatMap en.f)) _
      rw [hl1]
      by_cases hz : len * en.u = 0
      · refine .tree (c := #[]) hfl hl (.inl (List.eq_nil_of_length_eq_zero (by omega))) fun i v x hv hx => by simp at hx
      · obtain ⟨_, _, c, _, hc1, _, _⟩ := each (len * en.u - 1) (by omega)
        refine .tree (c := c) hfl hl (.inr ⟨hc1, ?_⟩) fun j v y hv hy => ?_
        · obtain ⟨_, _, c', _, hc2, hc3, _⟩ := each (len * en.u - 1) (by omega)
          rw [hc1] at hc2
          cases hc2
          have := (Array.getElem?_eq_some_iff.1 hc3).1
          omega
        · have hj := (List.getElem?_eq_some_iff.1 hv).1
          obtain ⟨v', y', c', e1, e2, e3, e4⟩ := each j (by omega)
          rw [hc1] at e2
          cases e2
          rw [hv] at e1
          rw [hy] at e3
          cases e1
          cases e3
          exact e4
theorem RelL.glue {r : Ren} {a b : List AV} {cs : List Value} {n : Nat} (h1 : RelL r a (cs.take n)) (h2 : RelL r b (cs.drop n)) : RelL r (a ++ b) cs := by
  have := h1.append h2
  rwa [List.take_append_drop] at this
end Go.Am
end
section
namespace Go.Am
open Go.RowKit
def enPair {α β : Type} (a : En α) (b : En β) : En (α × β) := ⟨a.u + b.u, fun p => a.f p.1 ++ b.f p.2, fun p => by simp [a.len, b.len]⟩
theorem Lifts.map {P : Program} {t : TypeId} {α β : Type} {a : En α} {b : En β} (h : Lifts P t a) (hf : ∀ x, ∃ y, b.f y = a.f x) : Lifts P t b := by
  intro H enc W base held fuel cs x hx
  obtain ⟨v, hv⟩ := h _ _ _ _ _ _ _ _ hx
  obtain ⟨y, hy⟩ := hf v
  exact ⟨y, by rw [hy]; exact hv⟩
theorem Lifts.struct1 {P : Program} {t : TypeId} {f0 : Field} {α : Type} {a : En α} (ht : P.underlying t = some (.struct #[f0])) (o0 : f0.offset = 0) (c0 : P.cellsOf f0.type = a.u) (ct : P.cellsOf t = a.u)
    (l0 : Lifts P f0.type a) : Lifts P t a := by
  intro H enc W base held fuel cs x hx
  obtain ⟨xs, n, _, _, hl, hn, h⟩ := DataW.trod_struct ht hx
  have hn1 : xs.length = 1 := hn
  have h0 := h 0 f0 rfl
  rw [List.getElem?_eq_getElem (by omega), o0, c0, List.drop_zero, List.take_of_length_le (by omega)] at h0
  exact l0 _ _ _ _ _ _ _ _ h0
theorem Lifts.struct2 {P : Program} {t : TypeId} {f0 f1 : Field} {α β : Type} {a : En α} {b : En β} (ht : P.underlying t = some (.struct #[f0, f1])) (o0 : f0.offset = 0) (o1 : f1.offset = a.u)
    (c0 : P.cellsOf f0.type = a.u) (c1 : P.cellsOf f1.type = b.u) (ct : P.cellsOf t = a.u + b.u) (l0 : Lifts P f0.type a) (l1 : Lifts P f1.type b) : Lifts P t (enPair a b) := by
  intro H enc W base held fuel cs x hx
  obtain ⟨xs, n, _, _, hl, hn, h⟩ := DataW.trod_struct ht hx
  have hn1 : xs.length = 2 := hn
  have h0 := h 0 f0 rfl
  have h1 := h 1 f1 rfl
  rw [List.getElem?_eq_getElem (by omega), o0, c0, List.drop_zero] at h0
  rw [List.getElem?_eq_getElem (by omega), o1, c1, List.take_of_length_le (by simp; omega)] at h1
  obtain ⟨x0, r0⟩ := l0 _ _ _ _ _ _ _ _ h0
  obtain ⟨x1, r1⟩ := l1 _ _ _ _ _ _ _ _ h1
  exact ⟨(x0, x1), .glue r0 r1⟩
theorem Lifts.struct3 {P : Program} {t : TypeId} {f0 f1 f2 : Field} {α β γ : Type} {a : En α} {b : En β} {c : En γ} (ht : P.underlying t = some (.struct #[f0, f1, f2])) (o0 : f0.offset = 0) (o1 : f1.offset = a.u) (o2 : f2.offset = a.u + b.u)
    (c0 : P.cellsOf f0.type = a.u) (c1 : P.cellsOf f1.type = b.u) (c2 : P.cellsOf f2.type = c.u) (ct : P.cellsOf t = a.u + (b.u + c.u)) (l0 : Lifts P f0.type a) (l1 : Lifts P f1.type b) (l2 : Lifts P f2.type c) :
    Lifts P t (enPair a (enPair b c)) := by
  intro H enc W base held fuel cs x hx
  obtain ⟨xs, n, _, _, hl, hn, h⟩ := DataW.trod_struct ht hx
  have hn1 : xs.length = 3 := hn
  have h0 := h 0 f0 rfl
  have h1 := h 1 f1 rfl
  have h2 := h 2 f2 rfl
  rw [List.getElem?_eq_getElem (by omega), o0, c0, List.drop_zero] at h0
  rw [List.getElem?_eq_getElem (by omega), o1, c1] at h1
  rw [List.getElem?_eq_getElem (by omega), o2, c2, ← List.drop_drop, List.take_of_length_le (by simp; omega)] at h2
  obtain ⟨x0, r0⟩ := l0 _ _ _ _ _ _ _ _ h0
  obtain ⟨x1, r1⟩ := l1 _ _ _ _ _ _ _ _ h1
  obtain ⟨x2, r2⟩ := l2 _ _ _ _ _ _ _ _ h2
  exact ⟨(x0, x1, x2), .glue r0 (.glue r1 r2)⟩
theorem Lifts.arg {P : Program} {t : TypeId} {fs : Array Field} {α : Type} {en : En α} (hl : Lifts P t en) (ht : P.underlying t = some (.struct fs)) {W : World} {r : Reach} {b0 : Nat} {v : Value} (hval : Value.okWide P W r b0 t v)
    {H : Type} {enc : TypeId × Value → H} {base : Nat} {held : Bool} {d : DataW H} {ps : List MemPlace} (h : DataW.Trod enc P W base (fun _ => true) held t v d ps) : ∃ a, RelV (snapR W 0) (.agg (en.f a)) v := by
  simp only [Value.okWide, ht] at hval
  obtain ⟨cs, rfl, _, _⟩ := hval
  obtain ⟨fuel, hf⟩ := h
  obtain ⟨a, ha⟩ := hl _ _ _ _ _ _ _ _ hf
  exact ⟨a, by simpa [Value.cells] using RelV.agg ha.1 ha.2⟩
theorem Lifts.argS {P : Program} {t e : TypeId} {α : Type} {en : En α} (hl : Lifts P t (encSl en)) (ht : P.underlying t = some (.slice e)) {W : World} {r : Reach} {b0 : Nat} {v : Value} (hval : Value.okWide P W r b0 t v)
    {H : Type} {enc : TypeId × Value → H} {base : Nat} {held : Bool} {d : DataW H} {ps : List MemPlace} (h : DataW.Trod enc P W base (fun _ => true) held t v d ps) : ∃ g : GS en, RelV (snapR W 0) g.v v := by
  obtain ⟨fuel, hf⟩ := h
  obtain ⟨a, ha⟩ := hl _ _ _ _ _ _ _ _ hf
  refine ⟨a, ?_⟩
  cases v with
  | agg cs => simp [Value.okWide, ht, Cell.okWide, Cell.ok] at hval
  | slice x y z => exact ha.2 0 _ _ rfl rfl
  | _ => simp [Value.okWide, ht, Cell.okWide, Cell.ok] at hval
end Go.Am
end
section
namespace Go.Am.Ythckcbfijdambaa
open Go.Am Go.RowKit Go.Proofs
theorem li_int : Lifts Try.prog 3 encI := .int Try.underlying3
theorem li_ints : Lifts Try.prog 26 (encSl encI) := .slice Try.underlying26 (by kernel_rfl) (by decide) li_int
theorem li_item : Lifts Try.prog 53 encIt := (Lifts.struct1 Try.underlying53 rfl (by kernel_rfl) (by kernel_rfl) li_ints).map fun x => ⟨⟨x⟩, rfl⟩
theorem li_items : Lifts Try.prog 25 (encSl encIt) := .slice Try.underlying25 (by kernel_rfl) (by decide) li_item
theorem li_sig : Lifts Try.prog 96 (enPair encI encI) := .struct2 Try.underlying96 rfl rfl (by kernel_rfl) (by kernel_rfl) (by kernel_rfl) li_int li_int
theorem li_chg : Lifts Try.prog 131 encC := (Lifts.struct3 Try.underlying131 rfl rfl rfl (by kernel_rfl) (by kernel_rfl) (by kernel_rfl) (by kernel_rfl) li_int li_int li_int).map fun x => ⟨⟨x.1, x.2.1, x.2.2⟩, rfl⟩
theorem li_chgs : Lifts Try.prog 97 (encSl encC) := .slice Try.underlying97 (by kernel_rfl) (by decide) li_chg
theorem li_gat : Lifts Try.prog 99 encG := (Lifts.struct3 Try.underlying99 rfl rfl rfl (by kernel_rfl) (by kernel_rfl) (by kernel_rfl) (by kernel_rfl) li_sig li_int li_chgs).map fun x => ⟨⟨x.1.1, x.1.2, x.2.1, x.2.2⟩, rfl⟩
theorem li_gats : Lifts Try.prog 22 (encSl encG) := .slice Try.underlying22 (by kernel_rfl) (by decide) li_gat
theorem li_book : Lifts Try.prog 24 encB := (Lifts.struct2 Try.underlying24 rfl rfl (by kernel_rfl) (by kernel_rfl) (by kernel_rfl) li_int li_gats).map fun x => ⟨⟨x.1, x.2⟩, rfl⟩
end Go.Am.Ythckcbfijdambaa
end
section
namespace Go.Am
set_option linter.unusedVariables false
theorem i64_small {x : Int} (h : -4000000000000000000 ≤ x ∧ x ≤ 4000000000000000000) : I64 x := by unfold I64; omega
section
variable {σ ε J A β : Type}
theorem Ok.ifp {p : Prop} [Decidable p] {x y : Option β} {Q : β → Prop} (h : p) (hx : Ok x Q) : Ok (if p then x else y) Q := by rw [if_pos h]; exact hx
theorem Ok.ifn {p : Prop} [Decidable p] {x y : Option β} {Q : β → Prop} (h : ¬ p) (hy : Ok y Q) : Ok (if p then x else y) Q := by rw [if_neg h]; exact hy
theorem Ok.eq {x : Option β} {a : β} {Q : β → Prop} (h : x = Option.some a) (hq : Q a) : Ok x Q := ⟨a, h, hq⟩
theorem Ok.andx' {x : Option J} {k : J → Option β} {a : J} {Q : β → Prop} (h : x = Option.some a) (hk : Ok (k a) Q) : Ok (Am.andx x k) Q := by subst h; exact hk
def CountQ (idx : σ → Int) (I : Nat → σ → Prop) (k : Nat) (Q : ε → Prop) : Stp σ ε → Prop
  | .ag s => idx s = k + 1 ∧ I (k + 1) s
  | .dn e => Q e
def FinQ (Q : ε → Prop) : Stp σ ε → Prop
  | .ag _ => False
  | .dn e => Q e
theorem Ok.count (idx : σ → Int) (n : Nat) (I : Nat → σ → Prop) {body : σ → Option (Stp σ ε)} {s0 : σ} {Q : ε → Prop} (h0 : idx s0 = 0) (hI : I 0 s0)
    (step : ∀ k s, k < n → idx s = k → I k s → Ok (body s) (CountQ idx I k Q)) (fin : ∀ s, idx s = n → I n s → Ok (body s) (FinQ Q)) : Ok (Am.iter body s0) Q := by
  refine Ok.iter (fun s => ∃ k : Nat, k ≤ n ∧ idx s = k ∧ I k s) (fun s => n - (idx s).toNat) ⟨0, Nat.zero_le _, h0, hI⟩ ?_
  rintro s ⟨k, hk, hx, hi⟩
  by_cases hlt : k < n
  · refine (step k s hlt hx hi).mono fun x hq => ?_
    cases x with
    | ag s' =>
      have h1 : idx s' = k + 1 := hq.1
      exact ⟨⟨k + 1, by omega, by rw [h1]; rfl, hq.2⟩, by show n - (idx s').toNat < n - (idx s).toNat; rw [h1, hx]; omega⟩
    | dn e => exact hq
  · have : k = n := by omega
    subst this
    refine (fin s hx hi).mono fun x hq => ?_
    cases x with
    | ag s' => exact hq.elim
    | dn e => exact hq
end
theorem get_of {α : Type} {l : List α} {k : Nat} {i : Int} {a : α} (h : l[i.toNat]? = some a) (hi : i = k) : l[k]? = some a := by rw [hi] at h; simpa using h
end Go.Am
end
section
namespace Go.Am
def cntOf (t : List Int) : Int → Int := fun x => ((t.countP fun y => decide (y = x) : Nat) : Int)
theorem cntOf_snoc (t : List Int) (n : Int) : cntOf (t ++ [n]) = putI (cntOf t) n (cntOf t n + 1) := by
  funext x
  unfold cntOf putI
  rw [List.countP_append]
  by_cases h : x = n
  · subst h; simp
  · have : ¬ n = x := fun e => h e.symm
    simp [h, this]
theorem cntOf_le (t : List Int) (x : Int) : 0 ≤ cntOf t x ∧ cntOf t x ≤ t.length := by
  unfold cntOf
  have := List.countP_le_length (p := fun y => decide (y = x)) (l := t)
  omega
theorem cntOf_pos (t : List Int) (x : Int) : 0 < cntOf t x ↔ x ∈ t := by
  unfold cntOf
  rw [show (0 < ((t.countP fun y => decide (y = x) : Nat) : Int)) ↔ 0 < t.countP fun y => decide (y = x) by omega, List.countP_pos_iff]
  simp
theorem there_ok {s : Int} {g : List Gat} {its : List Item} {lv : List Leaf} {mt t : List Int} (ht : t.length ≤ 1000000) : P_c_there s g its lv mt t = some (cntOf t) := by
  refine Ok.get ?_
  unfold P_c_there
  refine Ok.andx (P := fun f => f = cntOf t) (Ok.count Prod.fst t.length (fun k s => s.2 = cntOf (t.take k)) rfl rfl ?_ ?_) fun _ h => .some h
  · rintro k ⟨x, f⟩ hk hx hf
    simp only at hx hf
    subst hf
    unfold P_c_there_L1
    refine .ifp (by omega) (.el (by omega) fun a ha => ?_)
    have ha := get_of ha hx
    have := cntOf_le (t.take k) a
    have : (t.take k).length ≤ t.length := by rw [List.length_take]; omega
    refine .chk (i64_small (by omega)) (.chk (i64_small (by omega)) (.some ⟨by simp only; omega, ?_⟩))
    show _ = cntOf (t.take (k + 1))
    rw [take_snoc ha, cntOf_snoc]
  · rintro ⟨x, f⟩ hx hf
    simp only at hx hf
    unfold P_c_there_L1
    refine .ifn (by omega) (.some ?_)
    show _ = _
    rw [hf, List.take_length]
end Go.Am
end
section
namespace Go.Am
def BadOrder (l : List Int) : Prop := ∃ (i : Nat) (a b : Int), l[i]? = some a ∧ l[i + 1]? = some b ∧ b ≤ a
open Classical in
noncomputable def itemErr (l : List Int) (n : Int) : Int := if 4 < l.length then 3 else if ∃ x ∈ l, x < 0 ∨ n - 1 < x then 4 else if BadOrder l then 2 else 0
noncomputable def itemsErr (n : Int) : Nat → List Item → Option (Nat × Int)
  | _, [] => none
  | i, x :: l => if itemErr x.could.l n = 0 then itemsErr n (i + 1) l else some (i, itemErr x.could.l n)
def doubtsErr : Nat → Nat → List Item → Option Nat
  | _, _, [] => none
  | d, i, x :: l => if 3 < (if 1 < x.could.l.length then d + 1 else d) then some i else doubtsErr (if 1 < x.could.l.length then d + 1 else d) (i + 1) l
noncomputable def caseErr (s : Int) (g : List Gat) (its : List Item) : Int × Int × Int :=
  if (bookErr (bk s g)).2.2 = 0 then
    if 120 < (leavesOf (bk s g)).length then (1, 0, 3)
    else if 120 < its.length then (2, 0, 3)
    else match itemsErr (leavesOf (bk s g)).length 0 its with
      | some (i, e) => (2, (i : Int), e)
      | none => match doubtsErr 0 0 its with
        | some i => (3, (i : Int), 3)
        | none => (0, 0, 0)
  else (1, 0, (bookErr (bk s g)).2.2)
theorem in_ok {n lo hi : Int} : P_r4_in n lo hi = some (decide (lo ≤ n ∧ n ≤ hi)) := by
  unfold P_r4_in
  by_cases h : n ≥ lo
  · rw [if_pos h]; simp [andx, show lo ≤ n from h]
  · rw [if_neg h]; simp [andx, show ¬ lo ≤ n from h]
theorem item_ok {l : List Int} {n : Int} (hn : 0 ≤ n ∧ n ≤ 1000000) : P_r4_item l n = some (itemErr l n) := by
  refine Ok.get ?_
  unfold P_r4_item itemErr
  refine .ite (fun h => ?_) (fun h => ?_)
  · rw [if_pos (by omega)]; exact .some rfl
  · rw [if_neg (by omega)]
    refine Ok.seqx (Ok.count id l.length (fun k s => ∀ x ∈ l.take k, ¬ (x < 0 ∨ n - 1 < x)) rfl (by simp) ?_ ?_)
    · rintro k x hk hx hi
      simp only [id] at hx
      unfold P_r4_item_L1
      refine .ifp (by omega) (.el (by omega) fun a ha => .chk (i64_small (by omega)) (.andx' in_ok ?_))
      have ha := get_of ha hx
      refine .ite (fun hc => ?_) (fun hc => ?_)
      · refine .chk (i64_small (by omega)) (.some ⟨by simp only [id]; omega, ?_⟩)
        show ∀ y ∈ l.take (k + 1), _
        rw [take_snoc ha]
        intro y hy
        rcases List.mem_append.1 hy with hy | hy
        · exact hi y hy
        · simp at hy; subst hy; simp at hc; omega
      · refine .some ?_
        show 4 = _
        rw [if_pos ⟨a, List.mem_of_getElem? ha, by simp at hc; omega⟩]
    · rintro x hx hi
      simp only [id] at hx
      unfold P_r4_item_L1
      rw [List.take_length] at hi
      refine .ifn (by omega) (.some ?_)
      show Ok _ _
      rw [if_neg (fun ⟨y, h1, h2⟩ => hi y h1 h2)]
      refine Ok.seqx (Ok.iter (fun i => 1 ≤ i ∧ ∀ (k : Nat) (a b : Int), (k : Int) + 1 < i → l[k]? = some a → l[k + 1]? = some b → a < b) (fun i => l.length - i.toNat) ⟨by omega, fun k a b h => by omega⟩ ?_)
      rintro i ⟨h1, h2⟩
      unfold P_r4_item_L2
      refine .ite (fun hc => ?_) (fun hc => ?_)
      · refine .el (by omega) fun b hb => .chk (i64_small (by omega)) (.el (by omega) fun a ha => ?_)
        have e : i.toNat = (i - 1).toNat + 1 := by omega
        rw [e] at hb
        refine .ite (fun hd => .some ?_) (fun hd => .chk (i64_small (by omega)) (.some ⟨⟨by omega, ?_⟩, by simp only; omega⟩))
        · show 2 = _
          rw [if_pos ⟨_, a, b, ha, hb, hd⟩]
        · intro k a' b' hk ha' hb'
          by_cases hk' : (k : Int) + 1 < i
          · exact h2 k a' b' hk' ha' hb'
          · have : k = (i - 1).toNat := by omega
            subst this
            rw [ha] at ha'; rw [hb] at hb'
            cases ha'; cases hb'
            omega
      · refine .some ?_
        show Ok _ _
        refine .some ?_
        rw [if_neg]
        rintro ⟨k, a, b, ha, hb, hd⟩
        have := (List.getElem?_eq_some_iff.1 hb).1
        have := h2 k a b (by omega) ha hb
        omega
theorem itemsErr_drop {n : Int} {l : List Item} {k : Nat} {x : Item} (h : l[k]? = some x) : itemsErr n k (l.drop k) = if itemErr x.could.l n = 0 then itemsErr n (k + 1) (l.drop (k + 1)) else some (k, itemErr x.could.l n) := by
  rw [drop_cons h]; rfl
theorem doubtsErr_drop {d : Nat} {l : List Item} {k : Nat} {x : Item} (h : l[k]? = some x) : doubtsErr d k (l.drop k) = if 3 < (if 1 < x.could.l.length then d + 1 else d) then some k else doubtsErr (if 1 < x.could.l.length then d + 1 else d) (k + 1) (l.drop (k + 1)) := by
  rw [drop_cons h]; rfl
theorem r4_Check_ok {s : Int} {g : List Gat} {its : List Item} : P_r4_Check s g its = some (caseErr s g its) := by
  refine Ok.get ?_
  unfold P_r4_Check caseErr
  refine .andx' (x := P_r1_Check s g) rfl ?_
  dsimp only
  by_cases h0 : (bookErr (bk s g)).2.2 = 0
  · have hf := book_fits h0
    have hall : P_r1_All s g = some (leavesOf (bk s g)) := by unfold P_r1_All; rw [chk_pos hf]
    have hlen := leaves_len hf
    rw [if_pos h0, if_pos h0, hall]
    simp only [andx]
    generalize hL : leavesOf (bk s g) = lv at hlen
    by_cases h1 : 120 < lv.length
    · rw [if_pos (show decide ((lv.length : Int) > 120) = true by simp; omega), if_pos h1]
      simp only
      refine .ifp (by omega) (.some rfl)
    · rw [if_neg (show ¬ decide ((lv.length : Int) > 120) = true by simp; omega), if_neg h1]
      simp only [h0]
      refine .ifn (by simp) ?_
      by_cases h2 : 120 < its.length
      · rw [if_pos h2]; refine .ifp (by omega) (.some rfl)
      · rw [if_neg h2]
        refine .ifn (by omega) (Ok.seqx (Ok.count id its.length (fun k _ => itemsErr lv.length 0 its = itemsErr lv.length k (its.drop k)) rfl rfl ?_ ?_))
        · rintro k i hk hi hI
          simp only [id] at hi
          subst hi
          unfold P_r4_Check_L1
          refine .ifp (by omega) (.el (by omega) fun x hx => .andx' (item_ok (by omega)) ?_)
          have hx := get_of hx rfl
          rw [itemsErr_drop hx] at hI
          refine .ite (fun hc => ?_) (fun hc => ?_)
          · rw [if_neg hc] at hI
            refine .some ?_
            show _ = _
            rw [hI]
          · rw [if_pos (by omega)] at hI
            exact .chk (i64_small (by omega)) (.some ⟨rfl, hI⟩)
        · rintro i hi hI
          simp only [id] at hi
          subst hi
          unfold P_r4_Check_L1
          rw [List.drop_length] at hI
          refine .ifn (by omega) (.some ?_)
          show Ok _ _
          rw [hI]
          simp only [itemsErr]
          refine Ok.seqx (Ok.count (σ := Int × Int) Prod.snd its.length (fun k s => ∃ d : Nat, s.1 = d ∧ d ≤ 3 ∧ doubtsErr 0 0 its = doubtsErr d k (its.drop k)) rfl ⟨0, rfl, by omega, rfl⟩ ?_ ?_)
          · rintro k ⟨dd, i⟩ hk hi ⟨d, hd, hd3, hI⟩
            simp only at hi hd
            subst hi hd
            unfold P_r4_Check_L2
            refine .ifp (by omega) (Ok.seqx ?_)
            refine Ok.andx (P := fun j => ∃ x, its[k]? = some x ∧ j = ((if 1 < x.could.l.length then d + 1 else d : Nat) : Int)) (.el (by omega) fun x hx => ?_) ?_
            · have hx := get_of hx rfl
              refine .ite (fun hc => .chk (i64_small (by omega)) (.some ⟨x, hx, ?_⟩)) (fun hc => .some ⟨x, hx, ?_⟩)
              · rw [if_pos (by omega)]; rfl
              · rw [if_neg (by omega)]
            · rintro j ⟨x, hx, rfl⟩
              rw [doubtsErr_drop hx] at hI
              generalize (if 1 < x.could.l.length then d + 1 else d) = e at hI
              refine .ite (fun hc => ?_) (fun hc => ?_)
              · rw [if_pos (by omega)] at hI
                refine .some ?_
                show _ = _
                rw [hI]
              · rw [if_neg (by omega)] at hI
                refine .some ?_
                show Ok _ _
                exact .chk (i64_small (by omega)) (.some ⟨rfl, e, rfl, by omega, hI⟩)
          · rintro ⟨dd, i⟩ hi ⟨d, hd, hd3, hI⟩
            simp only at hi hd
            subst hi hd
            unfold P_r4_Check_L2
            rw [List.drop_length] at hI
            refine .ifn (by omega) (.some ?_)
            show Ok _ _
            rw [hI]
            exact .some rfl
  · rw [if_neg h0, if_neg h0]
    simp only [andx]
    rw [if_neg (by simp)]
    simp only
    exact .ifp h0 (.some rfl)
end Go.Am
end
section
namespace Go.Am
noncomputable def lvs (s : Int) (g : List Gat) : List Leaf := leavesOf (bk s g)
noncomputable def matesTo (s : Int) (g : List Gat) (n : Nat) : List Int := (List.range n).map fun n => pairNo (bk s g) n
noncomputable def matesOf (s : Int) (g : List Gat) : List Int := matesTo s g (lvs s g).length
theorem matesTo_len (s : Int) (g : List Gat) (n : Nat) : (matesTo s g n).length = n := by simp [matesTo]
theorem matesTo_succ (s : Int) (g : List Gat) (n : Nat) : matesTo s g (n + 1) = matesTo s g n ++ [pairNo (bk s g) n] := by
  unfold matesTo; rw [List.range_succ, List.map_append]; rfl
theorem itemsErr_pos : ∀ (l : List Item) (i : Nat) (n : Int), ∀ x, itemsErr n i l = some x → x.2 ≠ 0 := by
  intro l
  induction l with
  | nil => intro i n x h; cases h
  | cons a l ih =>
    intro i n x h
    unfold itemsErr at h
    split at h
    · exact ih _ _ _ h
    · cases h; assumption
noncomputable def openRes (s : Int) (g : List Gat) (its : List Item) : Sum (Int × Int × Int) (Int × (GS encL) × (List Int) × Int × Int × Int) :=
  if (caseErr s g its).2.2 = 0 then .inr (s, GSo true encL (lvs s g), matesOf s g, 0, 0, 0) else .inl (caseErr s g its)
theorem outside_ok {lo hi : Int} {x : List Int} (h : x.length ≤ 1000000) : P_c_outside lo hi x = some (decide (∃ n ∈ x, n < lo ∨ hi < n)) := by
  unfold P_c_outside
  rw [chk_pos (by omega)]
theorem order_ok {x44 : Int} {it : Item} (hl : it.could.l.length ≤ 4) {Q : Ex Unit (Stp Int (Ex Unit (Sum (Int × Int × Int) (Int × (GS encL) × (List Int) × Int × Int × Int)))) → Prop}
    (h1 : BadOrder it.could.l → Q (.rt (.dn (.rt (.inl (2, x44, 2)))))) (h2 : ¬ BadOrder it.could.l → Q (.nx ())) : Ok (iter (P_c_open_L2 x44 it) 0) Q := by
  refine Ok.iter (fun i => 0 ≤ i ∧ ∀ (k : Nat) (a b : Int), (k : Int) + 1 < i → it.could.l[k]? = some a → it.could.l[k + 1]? = some b → a < b) (fun i => it.could.l.length - i.toNat) ⟨by omega, fun k a b h => by omega⟩ ?_
  rintro i ⟨h0, hI⟩
  unfold P_c_open_L2
  refine .ite (fun hc => ?_) (fun hc => ?_)
  · refine Ok.seqx (.el (by omega) fun b hb => ?_)
    by_cases hi : i > 0
    · rw [if_pos hi]
      refine Ok.andx (P := fun c => ∃ a, it.could.l[(i - 1).toNat]? = some a ∧ c = decide (b ≤ a)) (.chk (i64_small (by omega)) (.el (by omega) fun a ha => .some ⟨a, ha, rfl⟩)) ?_
      rintro c ⟨a, ha, rfl⟩
      have e : i.toNat = (i - 1).toNat + 1 := by omega
      rw [e] at hb
      refine .ite (fun hd => .some ?_) (fun hd => .some ?_)
      · exact h1 ⟨_, a, b, ha, hb, by simpa using hd⟩
      · refine .chk (i64_small (by omega)) (.some ⟨⟨by omega, ?_⟩, by simp only; omega⟩)
        intro k a' b' hk ha' hb'
        by_cases hk' : (k : Int) + 1 < i
        · exact hI k a' b' hk' ha' hb'
        · have : k = (i - 1).toNat := by omega
          subst this
          rw [ha] at ha'; rw [hb] at hb'
          cases ha'; cases hb'
          have : ¬ b ≤ a := by simpa using hd
          omega
    · rw [if_neg hi]
      simp only [andx]
      rw [if_neg (by simp)]
      refine .some ?_
      show Ok _ _
      exact .chk (i64_small (by omega)) (.some ⟨⟨by omega, fun k a b hk => by omega⟩, by simp only; omega⟩)
  · refine .some ?_
    refine h2 ?_
    rintro ⟨k, a, b, ha, hb, hd⟩
    have := (List.getElem?_eq_some_iff.1 hb).1
    have := hI k a b (by omega) ha hb
    omega
theorem mate_ok {s : Int} {g : List Gat} {n : Nat} (h0 : (bookErr (bk s g)).2.2 = 0) (hn : n < (lvs s g).length) : (if ¬ (mateOf (bk s g) n).2 = 0 then (-1 : Int) else (mateOf (bk s g) n).1) = pairNo (bk s g) n := by
  rcases mate_cases h0 hn with h | ⟨h, h'⟩
  · rw [h]; simp
  · rw [h, h']; simp
theorem mates_ok {s : Int} {g : List Gat} (h0 : (bookErr (bk s g)).2.2 = 0) (hl : (lvs s g).length ≤ 120) : iter (P_c_open_L4 s g (lvs s g)) (0, []) = some (matesOf s g) := by
  refine Ok.get (Ok.count (σ := Int × List Int) Prod.fst (lvs s g).length (fun k x => x.2 = matesTo s g k) rfl rfl ?_ ?_)
  · rintro k ⟨i, l⟩ hk hi hl'
    simp only at hi hl'
    subst hi hl'
    unfold P_c_open_L4
    refine .ifp (by omega) (Ok.andx (P := fun l => l = matesTo s g (k + 1)) ?_ ?_)
    · refine .andx' (x := P_q_Mate s g k) (a := mateOf (bk s g) k) rfl ?_
      have hme := mate_ok h0 hk
      generalize mateOf (bk s g) (k : Int) = me at hme
      obtain ⟨m, e⟩ := me
      dsimp only at hme ⊢
      refine Ok.andx (P := fun m => m = pairNo (bk s g) k) ?_ ?_
      · refine .ite (fun hc => .some ?_) (fun hc => .some ?_)
        · rw [if_pos hc] at hme; exact hme
        · rw [if_neg hc] at hme; exact hme
      · rintro m rfl
        have := matesTo_len s g k
        exact .chk (by simp; omega) (.some (matesTo_succ s g k).symm)
    · rintro l rfl
      exact .chk (i64_small (by omega)) (.some ⟨rfl, rfl⟩)
  · rintro ⟨i, l⟩ hi hl'
    simp only at hi hl'
    subst hi hl'
    unfold P_c_open_L4
    exact .ifn (by omega) (.some rfl)
theorem open_ok {s : Int} {g : List Gat} {its : List Item} : P_c_open s g its = some (openRes s g its) := by
  refine Ok.get ?_
  unfold P_c_open openRes caseErr
  refine .andx' (x := P_q_Check s g) rfl ?_
  dsimp only
  by_cases h0 : (bookErr (bk s g)).2.2 = 0
  · rw [if_pos h0]
    refine .ifn (fun h => h h0) (.andx' (x := P_q_Leaves s g) (a := (leavesOf (bk s g), 0)) (by unfold P_q_Leaves; rw [if_pos h0, h0]) ?_)
    dsimp only
    have hlen := leaves_len (book_fits h0)
    have hmt := mates_ok (s := s) (g := g) h0
    unfold lvs at hmt ⊢
    generalize leavesOf (bk s g) = lv at hlen hmt
    by_cases h1 : 120 < lv.length
    · rw [if_pos h1]
      exact .ifp (by omega) (.some (by simp))
    · rw [if_neg h1]
      refine .ifn (by omega) ?_
      by_cases h2 : 120 < its.length
      · rw [if_pos h2]
        exact .ifp (by omega) (.some (by simp))
      · rw [if_neg h2]
        refine .ifn (by omega) (Ok.seqx (Ok.count id its.length (fun k _ => itemsErr lv.length 0 its = itemsErr lv.length k (its.drop k)) rfl rfl ?_ ?_))
        · rintro k i hk hi hI
          simp only [id] at hi
          subst hi
          unfold P_c_open_L1
          refine .ifp (by omega) (Ok.seqx (.el (by omega) fun x hx => ?_))
          have hx := get_of hx rfl
          rw [itemsErr_drop hx] at hI
          have key : ∀ e : Int, itemErr x.could.l lv.length = e → e ≠ 0 → (Sum.inl (2, (k : Int), e) : Sum (Int × Int × Int) (Int × (GS encL) × (List Int) × Int × Int × Int)) = (if (match itemsErr lv.length 0 its with | some (i, e) => ((2 : Int), (i : Int), e) | none => match doubtsErr 0 0 its with | some i => (3, (i : Int), 3) | none => (0, 0, 0)).2.2 = 0 then .inr (s, GSo true encL lv, matesOf s g, 0, 0, 0) else .inl (match itemsErr lv.length 0 its with | some (i, e) => ((2 : Int), (i : Int), e) | none => match doubtsErr 0 0 its with | some i => (3, (i : Int), 3) | none => (0, 0, 0))) := by
            intro e he h
            rw [he, if_neg h] at hI
            rw [hI]
            simp [h]
          unfold itemErr at hI key
          refine .ite (fun hc => ?_) (fun hc => ?_)
          · exact .some (key 3 (by rw [if_pos (by omega)]) (by omega))
          · rw [if_neg (by omega : ¬ 4 < x.could.l.length)] at hI key
            refine .chk (i64_small (by omega)) (.andx' (outside_ok (by omega)) ?_)
            refine .ite (fun hd => ?_) (fun hd => ?_)
            · exact .some (key 4 (by rw [if_pos (by simpa using hd)]) (by omega))
            · have hd' : ¬ ∃ n ∈ x.could.l, n < 0 ∨ (lv.length : Int) - 1 < n := by simpa using hd
              rw [if_neg hd'] at hI key
              refine order_ok (by omega) (fun hb => ?_) (fun hb => ?_)
              · exact key 2 (by rw [if_pos hb]) (by omega)
              · rw [if_neg hb, if_pos rfl] at hI
                show Ok _ _
                exact .chk (i64_small (by omega)) (.some ⟨rfl, hI⟩)
        · rintro i hi hI
          simp only [id] at hi
          subst hi
          unfold P_c_open_L1
          rw [List.drop_length] at hI
          refine .ifn (by omega) (.some ?_)
          show Ok _ _
          rw [hI]
          simp only [itemsErr]
          refine Ok.seqx (Ok.count (σ := Int × Int) Prod.snd its.length (fun k s => ∃ d : Nat, s.1 = d ∧ d ≤ 3 ∧ doubtsErr 0 0 its = doubtsErr d k (its.drop k)) rfl ⟨0, rfl, by omega, rfl⟩ ?_ ?_)
          · rintro k ⟨dd, i⟩ hk hi ⟨d, hd, hd3, hI⟩
            simp only at hi hd
            subst hi hd
            unfold P_c_open_L3
            refine .ifp (by omega) (Ok.seqx (.el (by omega) fun x hx => ?_))
            have hx := get_of hx rfl
            rw [doubtsErr_drop hx] at hI
            refine Ok.andx (P := fun j => j = ((if 1 < x.could.l.length then d + 1 else d : Nat) : Int)) ?_ ?_
            · refine .ite (fun hc => .chk (i64_small (by omega)) (.some ?_)) (fun hc => .some ?_)
              · rw [if_pos (by omega)]; rfl
              · rw [if_neg (by omega)]
            · rintro j rfl
              generalize (if 1 < x.could.l.length then d + 1 else d) = e at hI
              refine .ite (fun hc => ?_) (fun hc => ?_)
              · rw [if_pos (by omega)] at hI
                refine .some ?_
                show _ = _
                rw [hI]
                simp
              · rw [if_neg (by omega)] at hI
                refine .some ?_
                show Ok _ _
                exact .chk (i64_small (by omega)) (.some ⟨rfl, e, rfl, by omega, hI⟩)
          · rintro ⟨dd, i⟩ hi ⟨d, hd, hd3, hI⟩
            simp only at hi hd
            subst hi hd
            unfold P_c_open_L3
            rw [List.drop_length] at hI
            refine .ifn (by omega) (.some ?_)
            show Ok _ _
            rw [hI]
            refine .andx' (hmt (by omega)) (.some ?_)
            simp [doubtsErr]
  · rw [if_neg h0]
    exact .ifp h0 (.some (by rw [if_neg h0]))
end Go.Am
end
section
namespace Go.Am
theorem doubts_le : ∀ (l : List Item) (d i : Nat), d ≤ 3 → doubtsErr d i l = none → d + l.countP (fun x => decide (1 < x.could.l.length)) ≤ 3 := by
  intro l
  induction l with
  | nil => intro d i hd _; simpa using hd
  | cons x l ih =>
    intro d i hd h
    unfold doubtsErr at h
    rw [List.countP_cons]
    by_cases hx : 1 < x.could.l.length
    · simp only [hx, if_true, decide_true] at h ⊢
      split at h
      · cases h
      · have := ih _ _ (by omega) h
        omega
    · simp only [hx, if_false, decide_false] at h ⊢
      split at h
      · cases h
      · have := ih _ _ (by omega) h
        simpa using this
theorem items_ok {n : Int} : ∀ (l : List Item) (i : Nat), itemsErr n i l = none → ∀ x ∈ l, itemErr x.could.l n = 0 := by
  intro l
  induction l with
  | nil => intro i _ x hx; simp at hx
  | cons a l ih =>
    intro i h x hx
    unfold itemsErr at h
    split at h
    · rename_i h0
      rcases List.mem_cons.1 hx with rfl | hx
      · exact h0
      · exact ih _ h x hx
    · cases h
theorem item_facts {l : List Int} {n : Int} (h : itemErr l n = 0) : l.length ≤ 4 ∧ (∀ x ∈ l, 0 ≤ x ∧ x ≤ n - 1) ∧ ¬ BadOrder l := by
  unfold itemErr at h
  split at h
  · omega
  · split at h
    · omega
    · rename_i h1 h2
      split at h
      · omega
      · rename_i h3
        refine ⟨by omega, fun x hx => ?_, h3⟩
        have : ¬ (x < 0 ∨ n - 1 < x) := fun k => h2 ⟨x, hx, k⟩
        omega
def wid : List Item → Nat
  | [] => 1
  | x :: l => (chs x).length * wid l
theorem comps_len : ∀ (l : List Item) (p : List Int), (comps p l).length = wid l := by
  intro l
  induction l with
  | nil => intro p; rfl
  | cons x l ih =>
    intro p
    unfold comps wid
    rw [List.length_flatMap]
    have : ((chs x).map fun c => (comps (p ++ [c]) l).length) = (chs x).map fun _ => wid l := by simp [ih]
    rw [this]
    simp [List.map_const', List.sum_replicate_nat]
theorem chs_len (x : Item) (h : x.could.l.length ≤ 4) : 1 ≤ (chs x).length ∧ (chs x).length ≤ 4 ∧ (1 < (chs x).length ↔ 1 < x.could.l.length) := by
  unfold chs
  by_cases h0 : x.could.l = []
  · rw [if_pos h0]; simp [h0]
  · rw [if_neg h0]
    have : x.could.l.length ≠ 0 := fun e => h0 (List.eq_nil_of_length_eq_zero e)
    omega
theorem wid_le : ∀ (l : List Item), (∀ x ∈ l, x.could.l.length ≤ 4) → 1 ≤ wid l ∧ wid l ≤ 4 ^ l.countP (fun x => decide (1 < x.could.l.length)) := by
  intro l
  induction l with
  | nil => intro _; simp [wid]
  | cons x l ih =>
    intro h
    have hx := chs_len x (h x (by simp))
    obtain ⟨h1, h2⟩ := ih fun y hy => h y (by simp [hy])
    unfold wid
    rw [List.countP_cons]
    refine ⟨Nat.mul_pos hx.1 h1, ?_⟩
    by_cases hc : 1 < x.could.l.length
    · simp only [hc, decide_true, if_true, Nat.pow_succ]
      rw [Nat.mul_comm]
      exact Nat.mul_le_mul h2 hx.2.1
    · have : (chs x).length = 1 := by have := hx.2.2; omega
      simp only [hc, decide_false, this]
      simpa using h2
theorem wid_one : ∀ (l : List Item), (∀ x ∈ l, x.could.l.length ≤ 4) → (1 < wid l ↔ ∃ x ∈ l, 1 < x.could.l.length) := by
  intro l
  induction l with
  | nil => intro _; simp [wid]
  | cons x l ih =>
    intro h
    have hx := chs_len x (h x (by simp))
    have h1 := (wid_le l fun y hy => h y (by simp [hy])).1
    have ih := ih fun y hy => h y (by simp [hy])
    unfold wid
    constructor
    · intro hw
      by_cases hc : 1 < x.could.l.length
      · exact ⟨x, by simp, hc⟩
      · have : (chs x).length = 1 := by have := hx.2.2; omega
        rw [this, Nat.one_mul] at hw
        obtain ⟨y, hy, hy'⟩ := ih.1 hw
        exact ⟨y, by simp [hy], hy'⟩
    · rintro ⟨y, hy, hc⟩
      rcases List.mem_cons.1 hy with rfl | hy
      · have := hx.2.2.2 hc
        calc 1 < (chs y).length := this
          _ = (chs y).length * 1 := (Nat.mul_one _).symm
          _ ≤ (chs y).length * wid l := Nat.mul_le_mul_left _ h1
      · have := ih.2 ⟨y, hy, hc⟩
        calc 1 < wid l := this
          _ = 1 * wid l := (Nat.one_mul _).symm
          _ ≤ (chs x).length * wid l := Nat.mul_le_mul_right _ hx.1
def lev : List (List Int) → List Item → List (List Int)
  | out, [] => out
  | out, x :: l => lev (out.flatMap fun o => (chs x).map fun c => o ++ [c]) l
theorem lev_comps : ∀ (l : List Item) (out : List (List Int)), lev out l = out.flatMap fun o => comps o l := by
  intro l
  induction l with
  | nil => intro out; simp [lev, comps]
  | cons x l ih =>
    intro out
    unfold lev
    rw [ih, List.flatMap_assoc]
    congr 1
    funext o
    rw [List.flatMap_map]
    rfl
theorem lev_snoc : ∀ (l : List Item) (out : List (List Int)) (x : Item), lev out (l ++ [x]) = (lev out l).flatMap fun o => (chs x).map fun c => o ++ [c] := by
  intro l
  induction l with
  | nil => intro out x; rfl
  | cons y l ih => intro out x; exact ih _ x
theorem truths_lev (l : List Item) : lev [[]] l = truthsOf l := by rw [lev_comps]; simp [truthsOf]
theorem comps_each : ∀ (l : List Item) (p t : List Int), t ∈ comps p l → t.length = p.length + l.length := by
  intro l
  induction l with
  | nil => intro p t h; simp [comps] at h; simp [h]
  | cons x l ih =>
    intro p t h
    unfold comps at h
    obtain ⟨c, _, hc⟩ := List.mem_flatMap.1 h
    have := ih _ _ hc
    simp at this ⊢
    omega
theorem lev_each {l : List Item} {t : List Int} (h : t ∈ lev [[]] l) : t.length = l.length := by
  rw [truths_lev] at h
  simpa using comps_each l [] t h
theorem one_row {could : List Int} {o : List Int} {body : Int × List (List Int) → Option (Stp (Int × List (List Int)) (List (List Int)))} (hb : ∀ (n : Nat) (next : List (List Int)), next.length ≤ 1000000 → (∀ a, could[n]? = some a → body (n, next) = some (.ag ((n : Int) + 1, next ++ [o ++ [a]]))) ∧ (could[n]? = none → body (n, next) = some (.dn next)))
    {next : List (List Int)} (hn : next.length + could.length ≤ 1000000) : iter body (0, next) = some (next ++ could.map fun c => o ++ [c]) := by
  refine Ok.get (Ok.count (σ := Int × List (List Int)) Prod.fst could.length (fun k s => s.2 = next ++ (could.take k).map fun c => o ++ [c]) rfl (by simp) ?_ ?_)
  · rintro k ⟨i, nx⟩ hk hi hx
    simp only at hi hx
    subst hi hx
    have e := List.getElem?_eq_getElem hk
    refine .eq ((hb k _ (by simp; omega)).1 _ e) ⟨rfl, ?_⟩
    show _ = next ++ (could.take (k + 1)).map fun c => o ++ [c]
    rw [take_snoc e, List.map_append, ← List.append_assoc]
    rfl
  · rintro ⟨i, nx⟩ hi hx
    simp only at hi hx
    subst hi hx
    refine .eq ((hb could.length _ (by simp; omega)).2 (List.getElem?_eq_none (Nat.le_refl _))) ?_
    show _ = _
    rw [List.take_length]
theorem all_rows {could : List Int} {out : List (List Int)} {body : Int × List (List Int) → Option (Stp (Int × List (List Int)) (List (List Int)))} (hb : ∀ (k : Nat) (next : List (List Int)), next.length + could.length ≤ 1000000 → (∀ o, out[k]? = some o → body (k, next) = some (.ag ((k : Int) + 1, next ++ could.map fun c => o ++ [c]))) ∧ (out[k]? = none → body (k, next) = some (.dn next)))
    (hn : (out.length + 1) * could.length ≤ 1000000) : iter body (0, []) = some (out.flatMap fun o => could.map fun c => o ++ [c]) := by
  have hlen : ∀ k, k ≤ out.length → ((out.take k).flatMap fun o => could.map fun c => o ++ [c]).length = k * could.length := by
    intro k hk
    rw [List.length_flatMap]
    have : ((out.take k).map fun o => (could.map fun c => o ++ [c]).length) = (out.take k).map fun _ => could.length := by simp
    rw [this]
    simp [List.map_const', List.sum_replicate_nat, Nat.min_eq_left hk]
  refine Ok.get (Ok.count (σ := Int × List (List Int)) Prod.fst out.length (fun k s => s.2 = (out.take k).flatMap fun o => could.map fun c => o ++ [c]) rfl (by simp) ?_ ?_)
  · rintro k ⟨i, nx⟩ hk hi hx
    simp only at hi hx
    subst hi hx
    have e := List.getElem?_eq_getElem hk
    have hb1 : k * could.length + could.length ≤ (out.length + 1) * could.length := by
      rw [← Nat.succ_mul]; exact Nat.mul_le_mul_right _ (by omega)
    refine .eq ((hb k _ (by rw [hlen k (by omega)]; omega)).1 _ e) ⟨rfl, ?_⟩
    show _ = (out.take (k + 1)).flatMap _
    rw [take_snoc e, List.flatMap_append]
    simp
  · rintro ⟨i, nx⟩ hi hx
    simp only at hi hx
    subst hi hx
    have hb1 : out.length * could.length + could.length = (out.length + 1) * could.length := (Nat.succ_mul _ _).symm
    refine .eq ((hb out.length _ (by rw [hlen _ (Nat.le_refl _)]; omega)).2 (List.getElem?_eq_none (Nat.le_refl _))) ?_
    show _ = _
    rw [List.take_length]
end Go.Am
end
section
namespace Go.Am
set_option linter.unusedVariables false
structure GoodCase (s : Int) (g : List Gat) (its : List Item) : Prop where
  b0 : (bookErr (bk s g)).2.2 = 0
  nl : (lvs s g).length ≤ 120
  il : its.length ≤ 120
  few : ∀ x ∈ its, x.could.l.length ≤ 4
  rng : ∀ x ∈ its, ∀ n ∈ x.could.l, 0 ≤ n ∧ n ≤ ((lvs s g).length : Int) - 1
  dbt : its.countP (fun x => decide (1 < x.could.l.length)) ≤ 3
theorem case_good {s : Int} {g : List Gat} {its : List Item} (h : (caseErr s g its).2.2 = 0) : GoodCase s g its := by
  unfold caseErr at h
  by_cases hb : (bookErr (bk s g)).2.2 = 0
  · rw [if_pos hb] at h
    by_cases h1 : 120 < (leavesOf (bk s g)).length
    · rw [if_pos h1] at h; simp at h
    · rw [if_neg h1] at h
      by_cases h2 : 120 < its.length
      · rw [if_pos h2] at h; simp at h
      · rw [if_neg h2] at h
        split at h
        · rename_i i e he
          exact absurd h (itemsErr_pos _ _ _ _ he)
        · rename_i he
          split at h
          · simp at h
          · rename_i hd
            have hi := fun x hx => item_facts (items_ok _ _ he x hx)
            exact ⟨hb, by unfold lvs; omega, by omega, fun x hx => (hi x hx).1, fun x hx => (hi x hx).2.1, by simpa using doubts_le _ _ _ (by omega) hd⟩
  · rw [if_neg hb] at h; exact absurd h hb
theorem GoodCase.wid {s : Int} {g : List Gat} {its : List Item} (h : GoodCase s g its) : Go.Am.wid its ≤ 64 :=
  Nat.le_trans (wid_le _ h.few).2 (Nat.le_trans (Nat.pow_le_pow_right (by omega) h.dbt) (by decide))
theorem GoodCase.take {s : Int} {g : List Gat} {its : List Item} (h : GoodCase s g its) (k : Nat) : GoodCase s g (its.take k) :=
  ⟨h.b0, h.nl, Nat.le_trans (by rw [List.length_take]; omega) h.il, fun x hx => h.few x (List.mem_of_mem_take hx), fun x hx => h.rng x (List.mem_of_mem_take hx),
    Nat.le_trans ((List.take_sublist k its).countP_le) h.dbt⟩
theorem lev_len (l : List Item) : (lev [[]] l).length = Go.Am.wid l := by rw [truths_lev]; exact comps_len l []
theorem el_eq {α β : Type} {l : List α} {k : Nat} {a : α} {c : α → Option β} (h : l[k]? = some a) : el l (k : Int) c = c a := by
  unfold el; rw [if_pos (by omega)]; simp only [Int.toNat_natCast, h]
theorem row3 {l9 : List (List Int)} {k : Nat} {o : List Int} (ho : l9[k]? = some o) (hl : o.length ≤ 1000000) (n : Nat) (next : List (List Int)) (hn : next.length ≤ 1000000) :
    (∀ a, [(-1 : Int)][n]? = some a → P_r4_All_L3 l9 k (n, next) = some (.ag ((n : Int) + 1, next ++ [o ++ [a]]))) ∧ ([(-1 : Int)][n]? = none → P_r4_All_L3 l9 k (n, next) = some (.dn next)) := by
  constructor
  · intro a ha
    have hlt := (List.getElem?_eq_some_iff.1 ha).1
    have h1 : n < 1 := hlt
    unfold P_r4_All_L3
    dsimp only
    rw [if_pos (by omega), el_eq ho, el_eq ha, chk_pos (by simp; omega), chk_pos (by simp; omega), chk_pos (by simp; omega), chk_pos (i64_small (by omega))]
    rfl
  · intro hnone
    have := List.getElem?_eq_none_iff.1 hnone
    unfold P_r4_All_L3
    dsimp only
    rw [if_neg (by omega)]
theorem row5 {l9 : List (List Int)} {it : Item} {k : Nat} {o : List Int} (ho : l9[k]? = some o) (hl : o.length ≤ 1000000) (hc : it.could.l.length ≤ 4) (n : Nat) (next : List (List Int)) (hn : next.length ≤ 1000000) :
    (∀ a, it.could.l[n]? = some a → P_r4_All_L5 l9 it k (n, next) = some (.ag ((n : Int) + 1, next ++ [o ++ [a]]))) ∧ (it.could.l[n]? = none → P_r4_All_L5 l9 it k (n, next) = some (.dn next)) := by
  constructor
  · intro a ha
    have hlt := (List.getElem?_eq_some_iff.1 ha).1
    unfold P_r4_All_L5
    dsimp only
    rw [if_pos (by omega), el_eq ho, el_eq ha, chk_pos (by simp; omega), chk_pos (by simp; omega), chk_pos (by simp; omega), chk_pos (i64_small (by omega))]
    rfl
  · intro hnone
    have := List.getElem?_eq_none_iff.1 hnone
    unfold P_r4_All_L5
    dsimp only
    rw [if_neg (by omega)]
theorem lvl2 {l9 : List (List Int)} (hl : l9.length ≤ 64) (ho : ∀ o ∈ l9, o.length ≤ 1000000) : iter (P_r4_All_L2 l9) (0, []) = some (l9.flatMap fun o => [(-1 : Int)].map fun c => o ++ [c]) := by
  refine all_rows (fun k next hn => ⟨fun o hk => ?_, fun hk => ?_⟩) (by simp; omega)
  · have hlt := (List.getElem?_eq_some_iff.1 hk).1
    unfold P_r4_All_L2
    dsimp only
    rw [if_pos (by omega), one_row (row3 hk (ho o (List.mem_of_getElem? hk))) hn]
    simp only [andx]
    rw [chk_pos (i64_small (by omega))]
  · have := List.getElem?_eq_none_iff.1 hk
    unfold P_r4_All_L2
    dsimp only
    rw [if_neg (by omega)]
theorem lvl4 {l9 : List (List Int)} {it : Item} (hl : l9.length ≤ 64) (ho : ∀ o ∈ l9, o.length ≤ 1000000) (hc : it.could.l.length ≤ 4) : iter (P_r4_All_L4 l9 it) (0, []) = some (l9.flatMap fun o => it.could.l.map fun c => o ++ [c]) := by
  have h65 : (l9.length + 1) * it.could.l.length ≤ 1000000 := Nat.le_trans (Nat.mul_le_mul (show l9.length + 1 ≤ 65 by omega) hc) (by decide)
  refine all_rows (fun k next hn => ⟨fun o hk => ?_, fun hk => ?_⟩) h65
  · have hlt := (List.getElem?_eq_some_iff.1 hk).1
    unfold P_r4_All_L4
    dsimp only
    rw [if_pos (by omega), one_row (row5 hk (ho o (List.mem_of_getElem? hk)) hc) hn]
    simp only [andx]
    rw [chk_pos (i64_small (by omega))]
  · have := List.getElem?_eq_none_iff.1 hk
    unfold P_r4_All_L4
    dsimp only
    rw [if_neg (by omega)]
theorem All_ok {s : Int} {g : List Gat} {its : List Item} (h : GoodCase s g its) : ∃ z, P_r4_All s g its = some (truthsOf its, z) := by
  have : Ok (iter (P_r4_All_L1 its) (0, [([] : List Int)], false)) fun r => r.1 = truthsOf its := by
    refine Ok.count (σ := Int × List (List Int) × Bool) Prod.fst its.length (fun k x => x.2.1 = lev [[]] (its.take k)) rfl (by simp [lev]) ?_ ?_
    · rintro k ⟨i, l9, z⟩ hk hi hx
      simp only at hi hx
      subst hi hx
      have e := List.getElem?_eq_getElem hk
      have hm : its[k] ∈ its := List.getElem_mem hk
      have hL : (lev [[]] (its.take k)).length ≤ 64 := by rw [lev_len]; exact (h.take k).wid
      have hO : ∀ o ∈ lev [[]] (its.take k), o.length ≤ 1000000 := by
        intro o ho
        have h1 := lev_each ho
        have h2 : (its.take k).length ≤ 120 := (h.take k).il
        omega
      unfold P_r4_All_L1
      refine .ifp (by omega) ?_
      rw [el_eq e]
      have hs : lev [[]] (its.take (k + 1)) = (lev [[]] (its.take k)).flatMap fun o => (chs its[k]).map fun c => o ++ [c] := by rw [take_snoc e, lev_snoc]
      refine Ok.andx' (a := lev [[]] (its.take (k + 1))) ?_ ?_
      · by_cases hc : its[k].could.l = []
        · rw [if_pos (by simp [hc]), lvl2 hL hO, hs]
          simp [andx, chs, hc]
        · have : its[k].could.l.length ≠ 0 := fun e => hc (List.eq_nil_of_length_eq_zero e)
          rw [if_neg (by omega), lvl4 hL hO (h.few _ hm), hs]
          simp [andx, chs, hc]
      · exact .chk (i64_small (by have := h.il; omega)) (.some ⟨rfl, rfl⟩)
    · rintro ⟨i, l9, z⟩ hi hx
      simp only at hi hx
      subst hi hx
      unfold P_r4_All_L1
      refine .ifn (by omega) (.some ?_)
      show lev [[]] (its.take its.length) = _
      rw [List.take_length, truths_lev]
  obtain ⟨⟨l, z⟩, h1, h2⟩ := this
  refine ⟨z, ?_⟩
  unfold P_r4_All
  rw [h1]
  simp only [andx]
  rw [← h2]
theorem Mates_ok {s : Int} {g : List Gat} (h0 : (bookErr (bk s g)).2.2 = 0) (hl : (lvs s g).length ≤ 120) : P_r4_Mates s g = some (matesOf s g) := by
  have hf := book_fits h0
  unfold P_r4_Mates P_r1_All
  rw [chk_pos hf]
  show andx _ _ = _
  simp only [andx]
  have : iter (P_r4_Mates_L1 s g (leavesOf (bk s g))) (0, []) = some (matesOf s g) := by
    refine Ok.get (Ok.count (σ := Int × List Int) Prod.fst (lvs s g).length (fun k x => x.2 = matesTo s g k) rfl rfl ?_ ?_)
    · rintro k ⟨i, l⟩ hk hi hx
      simp only at hi hx
      subst hi hx
      unfold P_r4_Mates_L1
      refine .ifp (by unfold lvs at hk; omega) ?_
      unfold P_r1_Pair
      rw [chk_pos ⟨hf, by omega, by unfold lvs at hk; simpa using hk⟩]
      simp only [andx, Int.toNat_natCast]
      refine .chk (by rw [matesTo_len]; simp; omega) (.chk (i64_small (by omega)) (.some ⟨rfl, (matesTo_succ s g k).symm⟩))
    · rintro ⟨i, l⟩ hi hx
      simp only at hi hx
      subst hi hx
      unfold P_r4_Mates_L1
      exact .ifn (by unfold lvs; omega) (.some rfl)
  rw [this]
end Go.Am
end
section
namespace Go.Am
set_option linter.unusedVariables false
def divFrom (t u : List Int) : Nat → List Int → List Int → List Int × Int
  | _, cut, [] => (cut, 0)
  | i, cut, a :: l => if (i : Int) ∈ t ∧ (i : Int) ∈ u then ([], 5) else divFrom t u (i + 1) (if (i : Int) ∈ t ∧ 0 ≤ a ∧ a ∈ u then cut ++ [(i : Int)] else cut) l
def Doubtful (l : List Item) : Prop := ∃ x ∈ l, 1 < x.could.l.length
open Classical in
noncomputable def divSaid (s : Int) (g : List Gat) (one other : List Item) : List Int × Int :=
  if ¬ (caseErr s g one).2.2 = 0 then ([], (caseErr s g one).2.2)
  else if ¬ (caseErr s g other).2.2 = 0 then ([], (caseErr s g other).2.2)
  else if Doubtful one ∨ Doubtful other then ([], 2)
  else divFrom ((truthsOf one).headD []) ((truthsOf other).headD []) 0 [] (matesOf s g)
theorem divFrom_drop {t u : List Int} {k : Nat} {cut l : List Int} {a : Int} (h : l[k]? = some a) : divFrom t u k cut (l.drop k) = if (k : Int) ∈ t ∧ (k : Int) ∈ u then ([], 5) else divFrom t u (k + 1) (if (k : Int) ∈ t ∧ 0 ≤ a ∧ a ∈ u then cut ++ [(k : Int)] else cut) (l.drop (k + 1)) := by
  rw [drop_cons h]; rfl
theorem sure_truth {l : List Item} (hf : ∀ x ∈ l, x.could.l.length ≤ 4) (h : ¬ Doubtful l) : truthsOf l = [(truthsOf l).headD []] := by
  have h1 : ¬ 1 < wid l := fun k => h ((wid_one l hf).1 k)
  have h2 := (wid_le l hf).1
  have h3 : (truthsOf l).length = 1 := by rw [truthsOf, comps_len]; omega
  match e : truthsOf l, h3 with
  | [t], _ => rfl
theorem el0 {α β : Type} {l : List α} {a : α} {c : α → Option β} : el (a :: l) 0 c = c a := el_eq (k := 0) rfl
def divStep (t u : List Int) (k : Nat) (a : Int) (out : List Int) {A : Type} (r : List Int × Int → A) : Stp (Int × List Int) A :=
  if (k : Int) ∈ t ∧ (k : Int) ∈ u then .dn (r ([], 5)) else .ag ((k : Int) + 1, if (k : Int) ∈ t ∧ 0 ≤ a ∧ a ∈ u then out ++ [(k : Int)] else out)
theorem r4_step {t u mt : List Int} {z1 z2 : Bool} {k : Nat} {a : Int} {out : List Int} (ht : t.length ≤ 1000000) (hu : u.length ≤ 1000000) (hk : mt[k]? = some a) (hm : mt.length ≤ 1000000) (ho : out.length ≤ 1000000) :
    P_r4_Divided_L1 [t] z1 [u] z2 mt (k, out) = some (divStep t u k a out Ex.rt) := by
  have hlt := (List.getElem?_eq_some_iff.1 hk).1
  have e1 : (GSo z1 (encSl encI) (List.map (GSo true encI) [t])).l = [GSo true encI t] := rfl
  have e2 : (GSo z2 (encSl encI) (List.map (GSo true encI) [u])).l = [GSo true encI u] := rfl
  have f1 : (GSo true encI t).l = t := rfl
  have f2 : (GSo true encI u).l = u := rfl
  unfold P_r4_Divided_L1 P_r1_Has
  dsimp only
  rw [if_pos (by omega)]
  simp only [e1, e2, el0, f1, f2, el_eq hk]
  rw [chk_pos (by omega)]
  have c1 : t.length < 4611686018427387904 := by omega
  have c2 : u.length < 4611686018427387904 := by omega
  have c3 : I64 ((k : Int) + 1) := i64_small (by omega)
  have c4 : out.length + 1 < 1000000000 := by omega
  unfold divStep
  by_cases a1 : (k : Int) ∈ t
  · by_cases a2 : (k : Int) ∈ u
    · simp [andx, seqx, chk, a1, a2, c2]
    · by_cases a3 : 0 ≤ a
      · by_cases a4 : a ∈ u
        · simp [andx, seqx, chk, a1, a2, a3, a4, c2, c3, c4]
        · simp [andx, seqx, chk, a1, a2, a3, a4, c2, c3, c4]
      · simp [andx, seqx, chk, a1, a2, a3, c2, c3, c4]
  · simp [andx, seqx, chk, a1, c2, c3, c4]
theorem c_step {t u mt : List Int} {k : Nat} {a : Int} {out : List Int} (hk : mt[k]? = some a) (hm : mt.length ≤ 1000000) (ho : out.length ≤ 1000000) :
    P_c_Divided_L5 mt (cntOf t) (cntOf u) (k, out) = some (divStep t u k a out fun r => Stp.dn (Stp.dn (Ex.rt r))) := by
  have hlt := (List.getElem?_eq_some_iff.1 hk).1
  unfold P_c_Divided_L5
  dsimp only
  rw [if_pos (by omega)]
  simp only [el_eq hk, gt_iff_lt, cntOf_pos]
  have c3 : I64 ((k : Int) + 1) := i64_small (by omega)
  have c4 : out.length + 1 < 1000000000 := by omega
  unfold divStep
  by_cases a1 : (k : Int) ∈ t
  · by_cases a2 : (k : Int) ∈ u
    · simp [andx, seqx, chk, a1, a2]
    · by_cases a3 : 0 ≤ a
      · by_cases a4 : a ∈ u
        · simp [andx, seqx, chk, a1, a2, a3, a4, c3, c4]
        · simp [andx, seqx, chk, a1, a2, a3, a4, c3, c4]
      · simp [andx, seqx, chk, a1, a2, a3, c3, c4]
  · simp [andx, seqx, chk, a1, c3, c4]
theorem div_loop {A : Type} {t u mt : List Int} {body : Int × List Int → Option (Stp (Int × List Int) A)} {r : List Int × Int → A} {n : List Int → A} (hm : mt.length ≤ 1000000)
    (hs : ∀ (k : Nat) (a : Int) (out : List Int), mt[k]? = some a → out.length ≤ 1000000 → body (k, out) = some (divStep t u k a out r)) (hn : ∀ out, body (mt.length, out) = some (.dn (n out))) :
    Ok (iter body (0, [])) fun e => (∃ x, e = r x ∧ divFrom t u 0 [] mt = x) ∨ ∃ out, e = n out ∧ divFrom t u 0 [] mt = (out, 0) := by
  refine Ok.count (σ := Int × List Int) Prod.fst mt.length (fun k x => x.2.length ≤ k ∧ divFrom t u 0 [] mt = divFrom t u k x.2 (mt.drop k)) rfl ⟨by simp, by simp⟩ ?_ ?_
  · rintro k ⟨i, out⟩ hk hi ⟨hx, hd⟩
    simp only at hi hx hd
    subst hi
    have e := List.getElem?_eq_getElem hk
    refine .eq (hs k _ out e (by omega)) ?_
    rw [divFrom_drop e] at hd
    unfold divStep
    by_cases c : (k : Int) ∈ t ∧ (k : Int) ∈ u
    · rw [if_pos c] at hd ⊢
      exact .inl ⟨_, rfl, hd⟩
    · rw [if_neg c] at hd ⊢
      refine ⟨rfl, ?_, hd⟩
      show (if _ then _ else _ : List Int).length ≤ _
      split
      · simp; omega
      · omega
  · rintro ⟨i, out⟩ hi ⟨hx, hd⟩
    simp only at hi hx hd
    subst hi
    refine .eq (hn out) (.inr ⟨out, rfl, ?_⟩)
    rw [hd, List.drop_length]
    rfl
theorem openRes_err {s : Int} {g : List Gat} {its : List Item} (h : ¬ (caseErr s g its).2.2 = 0) : openRes s g its = .inl (caseErr s g its) := by unfold openRes; rw [if_neg h]
theorem openRes_ok {s : Int} {g : List Gat} {its : List Item} (h : (caseErr s g its).2.2 = 0) : openRes s g its = .inr (s, GSo true encL (lvs s g), matesOf s g, 0, 0, 0) := by unfold openRes; rw [if_pos h]
theorem truth_len {its : List Item} {t : List Int} (h : t ∈ truthsOf its) : t.length = its.length := by rw [← truths_lev] at h; exact lev_each h
theorem sure_len {its : List Item} (hf : ∀ x ∈ its, x.could.l.length ≤ 4) (h : ¬ Doubtful its) : ((truthsOf its).headD []).length = its.length := by
  have := sure_truth hf h
  exact truth_len (by rw [this]; simp)
theorem dbt_iff {s : Int} {g : List Gat} {its : List Item} (h : GoodCase s g its) : 1 < (truthsOf its).length ↔ Doubtful its := by
  rw [truthsOf, comps_len]; exact wid_one _ h.few
theorem r4_Divided_ok {s : Int} {g : List Gat} {one other : List Item} : P_r4_Divided s g one other = some (divSaid s g one other) := by
  unfold P_r4_Divided divSaid
  rw [r4_Check_ok, r4_Check_ok]
  simp only [andx]
  by_cases e1 : (caseErr s g one).2.2 = 0
  · simp only [e1, not_true_eq_false, if_false]
    by_cases e2 : (caseErr s g other).2.2 = 0
    · simp only [e2, not_true_eq_false, if_false]
      have g1 := case_good e1
      have g2 := case_good e2
      obtain ⟨z1, h1⟩ := All_ok g1
      obtain ⟨z2, h2⟩ := All_ok g2
      rw [h1, h2]
      dsimp only
      have d1 := dbt_iff g1
      have d2 := dbt_iff g2
      have l1 : (GSo z1 (encSl encI) (List.map (GSo true encI) (truthsOf one))).l.length = (truthsOf one).length := by simp [GSo]
      have l2 : (GSo z2 (encSl encI) (List.map (GSo true encI) (truthsOf other))).l.length = (truthsOf other).length := by simp [GSo]
      rw [l1, l2]
      by_cases hd : Doubtful one ∨ Doubtful other
      · rw [if_pos hd]
        have : (1 < (truthsOf one).length) ∨ (1 < (truthsOf other).length) := hd.imp d1.2 d2.2
        by_cases c : 1 < (truthsOf one).length
        · rw [if_pos (by omega)]
          rfl
        · rw [if_neg (by omega)]
          have : 1 < (truthsOf other).length := by omega
          have : decide (((truthsOf other).length : Int) > 1) = true := by simp; omega
          rw [this]
          rfl
      · rw [if_neg hd]
        have n1 : ¬ 1 < (truthsOf one).length := fun h => hd (.inl (d1.1 h))
        have n2 : ¬ 1 < (truthsOf other).length := fun h => hd (.inr (d2.1 h))
        have s1 := sure_truth g1.few fun h => hd (.inl h)
        have s2 := sure_truth g2.few fun h => hd (.inr h)
        have k1 := sure_len g1.few fun h => hd (.inl h)
        have k2 := sure_len g2.few fun h => hd (.inr h)
        have i1 := g1.il
        have i2 := g2.il
        rw [if_neg (by omega)]
        have : decide (((truthsOf other).length : Int) > 1) = false := by simp; omega
        rw [this]
        simp only [seqx]
        rw [if_neg (by simp), Mates_ok g1.b0 g1.nl]
        simp only []
        have hm : (matesOf s g).length ≤ 1000000 := by unfold matesOf; rw [matesTo_len]; have := g1.nl; omega
        obtain ⟨e, he, hq⟩ := div_loop (t := (truthsOf one).headD []) (u := (truthsOf other).headD []) (r := Ex.rt) (n := Ex.nx) hm (body := P_r4_Divided_L1 (truthsOf one) z1 (truthsOf other) z2 (matesOf s g))
          (fun k a out hk ho => by rw [s1, s2]; exact r4_step (by omega) (by omega) hk hm ho) (fun out => by unfold P_r4_Divided_L1; dsimp only; rw [if_neg (by omega)])
        rw [he]
        rcases hq with ⟨x, rfl, hx⟩ | ⟨out, rfl, hx⟩
        · simp only []; rw [hx]
        · simp only []; rw [hx]
    · simp only [e2, not_false_eq_true, if_true]
  · simp only [e1, not_false_eq_true, if_true]
theorem wide_c {l : List Item} (hl : l.length ≤ 120) : ∃ r : Int, (seqx (iter (P_c_Divided_L1 l) 0) fun _ => some (-1)) = some r ∧ (0 ≤ r ↔ Doubtful l) := by
  refine Ok.seqx (Ok.count (σ := Int) (fun i => i) l.length (fun k _ => ∀ x ∈ l.take k, ¬ 1 < x.could.l.length) rfl (by simp) ?_ ?_)
  · intro k i hk hi hx
    subst hi
    have e := List.getElem?_eq_getElem hk
    unfold P_c_Divided_L1
    refine .ifp (by omega) ?_
    rw [el_eq e]
    refine .ite (fun h => .some ?_) (fun h => .chk (i64_small (by omega)) (.some ⟨rfl, ?_⟩))
    · show (0 ≤ (k : Int) ↔ _)
      exact ⟨fun _ => ⟨_, List.getElem_mem hk, by omega⟩, fun _ => by omega⟩
    · intro x hm
      rw [take_snoc e] at hm
      rcases List.mem_append.1 hm with hm | hm
      · exact hx x hm
      · rw [List.mem_singleton.1 hm]; omega
  · intro i hi hx
    subst hi
    unfold P_c_Divided_L1
    refine .ifn (by omega) (.some ?_)
    show Ok (some (-1)) _
    refine .some ⟨fun h => absurd h (by omega), fun ⟨x, hm, h⟩ => ?_⟩
    rw [List.take_length] at hx
    exact absurd h (hx x hm)
def exOf {σ A : Type} : Stp σ A → Ex σ A
  | .ag s => .nx s
  | .dn r => .rt r
theorem foldx_one {σ β A : Type} {body : σ → β → Option (Stp σ A)} {a : β} {s : σ} {x : Stp σ A} (h : body s a = some x) : foldx body [a] s = some (exOf x) := by
  unfold foldx; rw [h]; cases x <;> rfl
theorem c_Divided_ok {s : Int} {g : List Gat} {one other : List Item} : P_c_Divided s g one other = some (divSaid s g one other) := by
  unfold P_c_Divided divSaid
  rw [open_ok, open_ok]
  by_cases e1 : (caseErr s g one).2.2 = 0
  · rw [openRes_ok e1]
    simp only [e1, not_true_eq_false, if_false]
    by_cases e2 : (caseErr s g other).2.2 = 0
    · rw [openRes_ok e2]
      simp only [e2, not_true_eq_false, if_false]
      have g1 := case_good e1
      have g2 := case_good e2
      obtain ⟨r1, w1, i1⟩ := wide_c (l := one) g1.il
      obtain ⟨r2, w2, i2⟩ := wide_c (l := other) g2.il
      have w2' : (seqx (iter (P_c_Divided_L2 other) 0) fun _ => some (-1)) = some r2 := w2
      rw [w1, w2']
      simp only [andx]
      rw [chk_pos trivial, chk_pos trivial]
      by_cases hd : Doubtful one ∨ Doubtful other
      · rw [if_pos hd]
        by_cases c : 0 ≤ r1
        · rw [if_pos c]
          rfl
        · rw [if_neg c]
          have : decide (r2 ≥ 0) = true := decide_eq_true (i2.2 (hd.resolve_left fun h => c (i1.2 h)))
          rw [this]
          rfl
      · rw [if_neg hd]
        have c : ¬ 0 ≤ r1 := fun h => hd (.inl (i1.1 h))
        have c2 : decide (r2 ≥ 0) = false := decide_eq_false fun h => hd (.inr (i2.1 h))
        have s1 := sure_truth g1.few fun h => hd (.inl h)
        have s2 := sure_truth g2.few fun h => hd (.inr h)
        have k1 := sure_len g1.few fun h => hd (.inl h)
        have k2 := sure_len g2.few fun h => hd (.inr h)
        have j1 := g1.il
        have j2 := g2.il
        rw [if_neg c, c2]
        have hm : (matesOf s g).length ≤ 1000000 := by unfold matesOf; rw [matesTo_len]; have := g1.nl; omega
        obtain ⟨e, he, hq⟩ := div_loop (t := (truthsOf one).headD []) (u := (truthsOf other).headD []) (r := fun r => Stp.dn (Stp.dn (Ex.rt r))) (n := Stp.ag) hm (body := P_c_Divided_L5 (matesOf s g) (cntOf ((truthsOf one).headD [])) (cntOf ((truthsOf other).headD [])))
          (fun k a out hk ho => c_step hk hm ho) (fun out => by unfold P_c_Divided_L5; dsimp only; rw [if_neg (by omega)])
        have q4 : P_c_Divided_L4 g one other s (GSo true encL (lvs s g)) (matesOf s g) s (GSo true encL (lvs s g)) (matesOf s g) ((truthsOf one).headD []) [] ((truthsOf other).headD []) = some e := by
          unfold P_c_Divided_L4
          rw [there_ok (by omega), there_ok (by omega)]
          exact he
        have q3 : P_c_Divided_L3 g one other s (GSo true encL (lvs s g)) (matesOf s g) s (GSo true encL (lvs s g)) (matesOf s g) [] ((truthsOf one).headD []) = seqx (some (exOf e)) fun cut_2 => some (Stp.ag cut_2) := by
          unfold P_c_Divided_L3
          rw [chk_pos ⟨g2.il, g2.few⟩, s2, foldx_one q4]
        rw [chk_pos ⟨g1.il, g1.few⟩, s1]
        rcases hq with ⟨x, rfl, hx⟩ | ⟨out, rfl, hx⟩
        · have := foldx_one (q3.trans rfl)
          simp only [seqx, List.headD_cons] at this ⊢
          rw [this, hx]
          rfl
        · have := foldx_one (q3.trans rfl)
          simp only [seqx, List.headD_cons] at this ⊢
          rw [this, hx]
          rfl
    · rw [openRes_err e2]
      simp only [e2, not_false_eq_true, if_true]
      simp only [andx]
      rw [chk_pos trivial, chk_pos e2]
  · rw [openRes_err e1]
    simp only [e1, not_false_eq_true, if_true]
    simp only [andx]
    rw [chk_pos e1]
theorem divSaid_len {s : Int} {g : List Gat} {one other : List Item} : (divSaid s g one other).1.length < 4611686018427387904 := by
  have hf : ∀ (t u l : List Int) (k : Nat) (cut : List Int), (divFrom t u k cut l).1.length ≤ cut.length + l.length := by
    intro t u l
    induction l with
    | nil => intro k cut; simp [divFrom]
    | cons a l ih =>
      intro k cut
      unfold divFrom
      split
      · simp
      · refine Nat.le_trans (ih _ _) ?_
        split
        · simp; omega
        · simp
  unfold divSaid
  split
  · simp
  · split
    · simp
    · split
      · simp
      · rename_i h1 h2 h3
        have g1 := case_good (Decidable.not_not.1 h1)
        have := hf ((truthsOf one).headD []) ((truthsOf other).headD []) (matesOf s g) 0 []
        have hm : (matesOf s g).length ≤ 120 := by unfold matesOf; rw [matesTo_len]; exact g1.nl
        simp only [List.length_nil] at this
        omega
end Go.Am
end
section
namespace Go.Am
theorem CopyDivides_true (s : Int) (g : List Gat) (one other : List Item) : P_law_CopyDivides s g one other = some true := by
  unfold P_law_CopyDivides P_r1_Ints
  rw [c_Divided_ok, r4_Divided_ok]
  simp only [andx]
  rw [chk_pos divSaid_len]
  simp
end Go.Am
end
section
namespace Go.Am.Ythckcbfijdambaa
open Go.Am Go.RowKit
theorem divides_calls (w : World) (b : Book) (one other : GS encIt) (xs : List Value) (h : RelL (snapR w 0) [.agg (encB.f b), one.v, other.v] xs) :
    Calls Go.Proofs.Try.prog 3 xs.toArray w fun e w' => e = .returned (.bool true) ∧ Below w.heap.size w w' :=
  ((w_law_CopyDivides b.signed b.gs one other true (CopyDivides_true _ _ _ _)).runsTo.calls (EL_good 6) w xs h).mono fun e w' ⟨x, he, hr, hb⟩ => ⟨by rw [he]; cases hr; rfl, hb⟩
end Go.Am.Ythckcbfijdambaa
namespace Go.Proofs.Ythckcbfijdambaa.copyDivides
open Go.ChangeShapes Go.WideShapes Go.ChangeAt Go.RowKit
set_option linter.unusedVariables false
theorem own : ownKnob Try.prog.godebug = none := by kernel_rfl
theorem laid : laidOutB Try.prog = true := by kernel_rfl
set_option maxRecDepth 100000 in
theorem lifted (os : Os) (started : os.Started) (H : Type) (enc : TypeId × Value → H) :
    ReturnsInHanded {} Try.checked os 3 .any (Rows.copyDividesSpec.pre6 enc Try.prog Try.f3 Rows.copyDividesRow.domain false) (Rows.copyDividesSpec.post enc Try.prog Try.f3 false true false false) := by
  refine returnsInHanded_of_change (C := Try.checked) own started (by kernel_rfl) Try.func3
    (ChangeSpec.witness6 (enc := enc) (C := Try.checked) false ⟨#[], #[.agg #[.int .i64 0, .slice none 0 0], .slice none 0 0, .slice none 0 0], []⟩ 8 (by kernel_rfl) (by kernel_rfl) (by kernel_rfl) (by kernel_rfl)) ?_
  intro W base args ds gs before hval0 hW hcnd _
  have hW' := hW
  obtain ⟨p, q, hA0, hV, rfl, hfz, hnd⟩ := hW
  have hA : DataW.TrodAll enc Try.prog W 0 (fun _ => true) true Try.f3.params.toList args.toList ds p := hA0
  have hval : ∀ (j : Nat) t v, Try.f3.params[j]? = some t → args[j]? = some v → Value.okWide Try.prog W .any base t v := hval0
  rw [Try.params3] at hA hval
  obtain ⟨v0, v1, v2, d0, d1, d2, p0, p1, p2, rfl, rfl, rfl, h0, h1, h2⟩ := trodAll_three hA
  obtain ⟨rfl, rfl⟩ := trodVars_none hV
  obtain ⟨b, r0⟩ := Go.Am.Ythckcbfijdambaa.li_book.arg Try.underlying24 (hval 0 24 v0 rfl rfl) h0
  obtain ⟨one, r1⟩ := Go.Am.Ythckcbfijdambaa.li_items.argS Try.underlying25 (hval 1 25 v1 rfl rfl) h1
  obtain ⟨other, r2⟩ := Go.Am.Ythckcbfijdambaa.li_items.argS Try.underlying25 (hval 2 25 v2 rfl rfl) h2
  clear hA0 hval0
  refine (Go.Am.Ythckcbfijdambaa.divides_calls W b one other [v0, v1, v2] (.cons r0 (.cons r1 (.cons r2 (.nil _))))).mono fun e W' ⟨he, bel⟩ => ?_
  subst he
  have hlt : ∀ x ∈ p0 ++ p1 ++ p2, x.block < W.heap.size := fun x hx => hW'.lt x (by simpa using hx)
  have k0 := Below.trod laid (by kernel_rfl) (of_decide_eq_true (by kernel_rfl)) h0 bel fun x hx => hlt x (by simp [hx])
  have k1 := Below.trod laid (by kernel_rfl) (of_decide_eq_true (by kernel_rfl)) h1 bel fun x hx => hlt x (by simp [hx])
  have k2 := Below.trod laid (by kernel_rfl) (of_decide_eq_true (by kernel_rfl)) h2 bel fun x hx => hlt x (by simp [hx])
  exact ⟨_, rfl, _, _, _, [], _, [], hW', trodAll_mk1 (shut_bool Try.underlying4 _), trodAll_mk3 k0 k1 k2, rfl, bel.frame _, fun h => by cases h⟩
theorem over : Rows.copyDividesRow.holds Try.pinned (OpenSpec.ofChange Rows.copyDividesSpec) :=
  OpenClaim.holds_of_wide 3 Try.f3 rfl rfl rfl rfl rfl rfl rfl ⟨rfl, rfl, rfl, rfl, rfl⟩ rfl rfl rfl rfl rfl (by kernel_rfl) Try.func3 (by kernel_rfl)
    (of_decide_eq_true (by kernel_rfl)) (by unfold Func.isWrapper; first | (rw [if_pos (by decide +kernel)]; kernel_rfl) | (rw [if_neg (by decide +kernel)]; exact ⟨rfl, rfl⟩))
    (fun os started H enc _ => lifted os started H enc)
theorem proved : Rows.CopyDividesSaid := over
#print axioms proved
end Go.Proofs.Ythckcbfijdambaa.copyDivides
end
