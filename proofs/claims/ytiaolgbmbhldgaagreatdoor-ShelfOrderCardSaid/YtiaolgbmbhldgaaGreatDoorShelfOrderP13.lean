/- Part 13. -/
import Derived.Test.YtiaolgbmbhldgaaGreatDoorShelfOrderP12
import Derived.Test.YtiaolgbmbhldgaaGreatDoorShelfOrderP10
import Derived.Test.YtiaolgbmbhldgaaGreatDoorShelfOrderP2
import Derived.ChangeArms
import Derived.ChangeSlices
import Derived.OpenShut
import Derived.Test.YtiaolgbmbhldgaaGreatDoorRows
import Derived.ProofKit
section
namespace Go.Am.YtiaolgbmbhldgaaGreatDoor
open Go.Am Go.RowKit
set_option linter.unusedVariables false
set_option linter.unusedSimpArgs false
set_option maxRecDepth 10000 in
theorem tf_cmpOr {k : Nat} (hk : 0 ≤ k) {C : List Thing} {v_vals : AV} {vals : List Int} (h_vals : Rdl C encI v_vals vals) {r : Int} (h : P_cmpOr vals = some r) :
  TF (EL k) 129 [v_vals] C (RepF (fun (w : Unit) => iv r) (fun (w : Unit) => C)) := by
 unfold P_cmpOr at h;refine TF.enter (fn := Go.Proofs.Tryz.f129) rfl rfl rfl rfl rfl ?_;refine T.seq ?_;refine T.text rfl ?_;refine TO.val rfl rfl rfl (Val.assign rfl) ?_;refine TO.nil ?_;refine T.seq ?_;refine T.text rfl ?_;refine TO.val rfl rfl rfl (Val.assign rfl) ?_;refine TO.nil ?_
 show T _ _ _ _ _ _;apply T.join (r := r) (W := Unit) (fun (j : Unit) (w : Unit) => ⟨[], [(3, iv (0))], C⟩) h
 ·intro j h;refine T.seq ?_;refine T.text rfl ?_;refine TO.val rfl rfl rfl (Val.move rfl) ?_;refine TO.val rfl rfl rfl (Val.len_l h_vals (mem0) rfl rfl) ?_;refine TO.val rfl rfl rfl (Val.move rfl) ?_;refine TO.nil ?_;refine T.block ?_
  show T _ _ _ _ _ _;apply T.iter (r := j) (W := Unit) (fun (j : Int) (w : Unit) => ⟨[], [(3, iv (0)), (6, v_vals), (7, iv ((vals.length : Int))), (8, iv (j))], C⟩) (w0 := ()) h
  ·exact ⟨rfl, (keep_cons rfl (keep_cons rfl (keep_cons rfl (keep_cons rfl keep_nil)))), .refl⟩
  rintro x8 _ a h;unfold P_cmpOr_L1 at h;refine T.at (s' := ⟨[], [(3, iv (0)), (6, v_vals), (7, iv ((vals.length : Int))), (8, iv (x8))], C⟩) rfl ?_;refine T.seq ?_;refine T.text rfl ?_;obtain ⟨c9, hc9⟩ : ∃ c : Bool, c = decide (x8 < (vals.length : Int)) := ⟨_, rfl⟩;refine TO.val rfl rfl rfl (Val.lss hc9 rfl rfl) ?_;refine TO.nil ?_;refine T.seq ?_;cases c9 with
  | true =>
   replace hc9 := of_decide_eq_true hc9.symm;rw [if_pos hc9] at h;refine T.condT (fun a ha => ha.ev (.tmp 9) _ rfl) ?_;refine T.skip ?_;refine T.seq ?_;refine T.block ?_;refine T.seq ?_;refine T.text rfl ?_;obtain ⟨a10, hia10, ea10, h⟩ := el_some h;refine TO.fact (rdl_at h_vals (mem0) hia10 ea10) (fun hp => ?_);obtain ⟨pa10, hpa10, hva10⟩ := hp;refine TO.val rfl rfl rfl (hva10 ⟨rfl, rfl⟩ rfl rfl) ?_;refine TO.val rfl rfl rfl (Val.load_e hpa10 (mem0) ⟨_, rfl, rfl⟩ rfl rfl) ?_;refine TO.val rfl rfl rfl (Val.assign rfl) ?_;refine TO.nil ?_;refine T.seq ?_;refine T.text rfl ?_;refine TO.val rfl rfl rfl (Val.move rfl) ?_;refine TO.val rfl rfl rfl (Val.move rfl) ?_;obtain ⟨c14, hc14⟩ : ∃ c : Bool, c = decide (¬ a10 = 0) := ⟨_, rfl⟩;refine TO.val rfl rfl rfl (Val.neq hc14 rfl rfl) ?_;refine TO.nil ?_;cases c14 with
   | true =>
    replace hc14 := of_decide_eq_true hc14.symm;rw [if_pos hc14] at h;refine T.condT (fun a ha => ha.ev (.tmp 14) _ rfl) ?_;refine T.seq ?_;refine T.text rfl ?_;refine TO.val rfl rfl rfl (Val.move rfl) ?_;refine TO.val rfl rfl rfl (Val.assign rfl) ?_;refine TO.nil ?_;refine T.ret ?_;cases h;exact ⟨ret_ne, ⟨ret_ne, ⟨rfl, _, rfl, ⟨(), rfl, .refl⟩⟩⟩⟩
   | false =>
    replace hc14 := of_decide_eq_false hc14.symm;rw [if_neg hc14] at h;refine T.condF (fun a ha => ha.ev (.tmp 14) _ rfl) ?_;refine T.skip ?_;refine T.text rfl ?_;obtain ⟨hk16, h⟩ := chk_some h;refine TO.val rfl rfl rfl (Val.add rfl rfl hk16) ?_;refine TO.val rfl rfl rfl (Val.move rfl) ?_;refine TO.nil ?_;cases h;exact ⟨rfl, (), ⟨rfl, (keep_cons rfl (keep_cons rfl (keep_cons rfl (keep_cons rfl keep_nil)))), .refl⟩⟩
  | false =>
   replace hc9 := of_decide_eq_false hc9.symm;rw [if_neg hc9] at h;refine T.condF (fun a ha => ha.ev (.tmp 9) _ rfl) ?_;refine T.exit ?_;cases h;exact ⟨ex_ne, ⟨rfl, (), ⟨rfl, (keep_cons rfl keep_nil), .refl⟩⟩⟩
 ·rintro _ _ h;skip;refine T.at (s' := ⟨[], [(3, iv (0))], C⟩) rfl ?_;refine T.seq ?_;refine T.text rfl ?_;refine TO.val rfl rfl rfl (Val.move rfl) ?_;refine TO.val rfl rfl rfl (Val.assign rfl) ?_;refine TO.nil ?_;refine T.ret ?_;cases h;exact ⟨rfl, _, rfl, ⟨(), rfl, .refl⟩⟩
set_option maxRecDepth 10000 in
theorem tf_cmpInt {k : Nat} (hk : 0 ≤ k) {C : List Thing} {x : Int} {y : Int} {r : Int} (h : P_cmpInt x y = some r) :
  TF (EL k) 89 [iv (x), iv (y)] C (RepF (fun (w : Unit) => iv r) (fun (w : Unit) => C)) := by
 unfold P_cmpInt at h;refine TF.enter (fn := Go.Proofs.Tryz.f89) rfl rfl rfl rfl rfl ?_;refine T.seq ?_;refine T.text rfl ?_;refine TO.val rfl rfl rfl (Val.assign rfl) ?_;refine TO.nil ?_;refine T.seq ?_;refine T.text rfl ?_;refine TO.val rfl rfl rfl (Val.move rfl) ?_;refine TO.callIn rfl rfl rfl rfl rfl rfl (orcN rfl) ?_;refine TF.enter (fn := Go.Proofs.Tryz.f128) rfl rfl rfl rfl rfl ?_;refine T.seq ?_;refine T.text rfl ?_;refine TO.val rfl rfl rfl (Val.assign rfl) ?_;refine TO.nil ?_;refine T.seq ?_;refine T.text rfl ?_;refine TO.val rfl rfl rfl (Val.move rfl) ?_;refine TO.val rfl rfl rfl (Val.move rfl) ?_;obtain ⟨c5, hc5⟩ : ∃ c : Bool, c = decide (¬ x = x) := ⟨_, rfl⟩;refine TO.val rfl rfl rfl (Val.neq hc5 rfl rfl) ?_;refine TO.val rfl rfl rfl (Val.assign rfl) ?_;refine TO.nil ?_;refine T.ret ?_;refine ⟨rfl, _, rfl, ?_⟩;refine TO.val rfl rfl rfl (Val.assign rfl) ?_;refine TO.nil ?_;refine T.seq ?_;refine T.text rfl ?_;refine TO.val rfl rfl rfl (Val.move rfl) ?_;refine TO.callIn rfl rfl rfl rfl rfl rfl (orcN rfl) ?_;refine TF.enter (fn := Go.Proofs.Tryz.f128) rfl rfl rfl rfl rfl ?_;refine T.seq ?_;refine T.text rfl ?_;refine TO.val rfl rfl rfl (Val.assign rfl) ?_;refine TO.nil ?_;refine T.seq ?_;refine T.text rfl ?_;refine TO.val rfl rfl rfl (Val.move rfl) ?_;refine TO.val rfl rfl rfl (Val.move rfl) ?_;obtain ⟨c5_2, hc5_2⟩ : ∃ c : Bool, c = decide (¬ y = y) := ⟨_, rfl⟩;refine TO.val rfl rfl rfl (Val.neq hc5_2 rfl rfl) ?_;refine TO.val rfl rfl rfl (Val.assign rfl) ?_;refine TO.nil ?_;refine T.ret ?_;refine ⟨rfl, _, rfl, ?_⟩;refine TO.val rfl rfl rfl (Val.assign rfl) ?_;refine TO.nil ?_;refine T.seq ?_;refine T.seq ?_;refine T.text rfl ?_;refine TO.val rfl rfl rfl (Val.move rfl) ?_;refine TO.nil ?_;cases c5 with
 | true =>
  replace hc5 := of_decide_eq_true hc5.symm;rw [if_pos hc5] at h;refine T.condT (fun a ha => ha.ev (.tmp 11) _ rfl) ?_;refine T.seq ?_;refine T.seq ?_;refine T.text rfl ?_;refine TO.val rfl rfl rfl (Val.move rfl) ?_;refine TO.nil ?_;cases c5_2 with
  | true =>
   replace hc5_2 := of_decide_eq_true hc5_2.symm;rw [if_pos hc5_2] at h;refine T.condT (fun a ha => ha.ev (.tmp 12) _ rfl) ?_;refine T.seq ?_;refine T.text rfl ?_;refine TO.val rfl rfl rfl (Val.assign rfl) ?_;refine TO.nil ?_;refine T.ret ?_;cases h;exact ⟨rfl, _, rfl, ⟨(), rfl, .refl⟩⟩
  | false =>
   replace hc5_2 := of_decide_eq_false hc5_2.symm;rw [if_neg hc5_2] at h;refine T.condF (fun a ha => ha.ev (.tmp 12) _ rfl) ?_;refine T.skip ?_;refine T.seq ?_;refine T.text rfl ?_;refine TO.val rfl rfl rfl (Val.assign rfl) ?_;refine TO.nil ?_;refine T.ret ?_;cases h;exact ⟨rfl, _, rfl, ⟨(), rfl, .refl⟩⟩
 | false =>
  replace hc5 := of_decide_eq_false hc5.symm;rw [if_neg hc5] at h;refine T.condF (fun a ha => ha.ev (.tmp 11) _ rfl) ?_;refine T.skip ?_;refine T.seq ?_;refine T.seq ?_;refine T.text rfl ?_;refine TO.val rfl rfl rfl (Val.move rfl) ?_;refine TO.nil ?_;cases c5_2 with
  | true =>
   replace hc5_2 := of_decide_eq_true hc5_2.symm;rw [if_pos hc5_2] at h;refine T.condT (fun a ha => ha.ev (.tmp 13) _ rfl) ?_;refine T.seq ?_;refine T.text rfl ?_;refine TO.val rfl rfl rfl (Val.assign rfl) ?_;refine TO.nil ?_;refine T.ret ?_;cases h;exact ⟨rfl, _, rfl, ⟨(), rfl, .refl⟩⟩
  | false =>
   replace hc5_2 := of_decide_eq_false hc5_2.symm;rw [if_neg hc5_2] at h;refine T.condF (fun a ha => ha.ev (.tmp 13) _ rfl) ?_;refine T.skip ?_;refine T.seq ?_;refine T.seq ?_;refine T.text rfl ?_;refine TO.val rfl rfl rfl (Val.move rfl) ?_;refine TO.val rfl rfl rfl (Val.move rfl) ?_;obtain ⟨c16, hc16⟩ : ∃ c : Bool, c = decide (x < y) := ⟨_, rfl⟩;refine TO.val rfl rfl rfl (Val.lss hc16 rfl rfl) ?_;refine TO.nil ?_;cases c16 with
   | true =>
    replace hc16 := of_decide_eq_true hc16.symm;rw [if_pos hc16] at h;refine T.condT (fun a ha => ha.ev (.tmp 16) _ rfl) ?_;refine T.seq ?_;refine T.text rfl ?_;refine TO.val rfl rfl rfl (Val.assign rfl) ?_;refine TO.nil ?_;refine T.ret ?_;cases h;exact ⟨rfl, _, rfl, ⟨(), rfl, .refl⟩⟩
   | false =>
    replace hc16 := of_decide_eq_false hc16.symm;rw [if_neg hc16] at h;refine T.condF (fun a ha => ha.ev (.tmp 16) _ rfl) ?_;refine T.skip ?_;refine T.seq ?_;refine T.seq ?_;refine T.text rfl ?_;refine TO.val rfl rfl rfl (Val.move rfl) ?_;refine TO.val rfl rfl rfl (Val.move rfl) ?_;obtain ⟨c19, hc19⟩ : ∃ c : Bool, c = decide (x > y) := ⟨_, rfl⟩;refine TO.val rfl rfl rfl (Val.gtr hc19 rfl rfl) ?_;refine TO.nil ?_;cases c19 with
    | true =>
     replace hc19 := of_decide_eq_true hc19.symm;rw [if_pos hc19] at h;refine T.condT (fun a ha => ha.ev (.tmp 19) _ rfl) ?_;refine T.seq ?_;refine T.text rfl ?_;refine TO.val rfl rfl rfl (Val.assign rfl) ?_;refine TO.nil ?_;refine T.ret ?_;cases h;exact ⟨rfl, _, rfl, ⟨(), rfl, .refl⟩⟩
    | false =>
     replace hc19 := of_decide_eq_false hc19.symm;rw [if_neg hc19] at h;refine T.condF (fun a ha => ha.ev (.tmp 19) _ rfl) ?_;refine T.skip ?_;refine T.seq ?_;refine T.text rfl ?_;refine TO.val rfl rfl rfl (Val.assign rfl) ?_;refine TO.nil ?_;refine T.ret ?_;cases h;exact ⟨rfl, _, rfl, ⟨(), rfl, .refl⟩⟩
set_option maxRecDepth 10000 in
theorem tf_s9_compare {k : Nat} (hk : 0 ≤ k) {C : List Thing} {a_Class : Int} {a_Number : Int} {a_Suffix : Str} {b_Class : Int} {b_Number : Int} {b_Suffix : Str} {r : Int} (h : P_s9_compare a_Class a_Number a_Suffix b_Class b_Number b_Suffix = some r) :
  TF (EL k) 90 [.agg [iv (a_Class), iv (a_Number), sv a_Suffix], .agg [iv (b_Class), iv (b_Number), sv b_Suffix]] C (RepF (fun (w : Unit) => iv r) (fun (w : Unit) => C)) := by
 unfold P_s9_compare at h;refine TF.enter (fn := Go.Proofs.Tryz.f90) rfl rfl rfl rfl rfl ?_;refine T.seq ?_;refine T.text rfl ?_;refine TO.box (k := 3) (cells := [_, _, _]) rfl rfl rfl rfl rfl rfl rfl (fun b2 => ?_);refine TO.box (k := 3) (cells := [_, _, _]) rfl rfl rfl rfl rfl rfl rfl (fun b3 => ?_);refine TO.val rfl rfl rfl (Val.assign rfl) ?_;refine TO.nil ?_;refine T.seq ?_;refine T.seq ?_;refine T.text rfl ?_;refine TO.val rfl rfl rfl (Val.load_rows (p := 1) (c := [_, _, _]) rfl ⟨⟨_, rfl, rfl⟩, rfl, by decide⟩ rfl rfl rfl rfl) ?_;refine TO.val rfl rfl rfl (Val.load_rows (p := 0) (c := [_, _, _]) rfl ⟨⟨_, rfl, rfl⟩, rfl, by decide⟩ rfl rfl rfl rfl) ?_;obtain ⟨c7, hc7⟩ : ∃ c : Bool, c = decide (a_Class = b_Class ∧ a_Number = b_Number ∧ a_Suffix = b_Suffix) := ⟨_, rfl⟩;refine TO.val rfl rfl rfl (Val.binD hc7 rfl rfl (eql_ty28 _ _ _ _ _ _ _ _)) ?_;refine TO.nil ?_;cases c7 with
 | true =>
  replace hc7 := of_decide_eq_true hc7.symm;rw [if_pos hc7] at h;refine T.condT (fun a ha => ha.ev (.tmp 7) _ rfl) ?_;refine T.seq ?_;refine T.text rfl ?_;refine TO.val rfl rfl rfl (Val.assign rfl) ?_;refine TO.nil ?_;refine T.ret ?_;cases h;exact ⟨rfl, _, rfl, ⟨(), rfl, (.drop (.drop .refl))⟩⟩
 | false =>
  replace hc7 := of_decide_eq_false hc7.symm;rw [if_neg hc7] at h;refine T.condF (fun a ha => ha.ev (.tmp 7) _ rfl) ?_;refine T.skip ?_;refine T.seq ?_;refine T.drawE (l1 := [0, 1, 2, 3, 4, 5, 6, 7, 8, 9, 10, 11, 12, 13, 14, 15, 16, 17, 18, 19, 20]) (l2 := [21, 22, 23, 24]) (by kernel_rfl) (by kernel_rfl) ?_;refine TD1.light rfl rfl rfl rfl (Val.faddr_ptr (fo := 0) rfl rfl rfl) ?_;refine TD1.read rfl rfl rfl rfl (Val.load_row (p := 1) rfl ⟨_, rfl, rfl⟩ rfl rfl rfl) ?_;refine TD1.light rfl rfl rfl rfl (Val.faddr_ptr (fo := 0) rfl rfl rfl) ?_;refine TD1.read rfl rfl rfl rfl (Val.load_row (p := 0) rfl ⟨_, rfl, rfl⟩ rfl rfl rfl) ?_;obtain ⟨hk12, h⟩ := chk_some h;refine TD1.light rfl rfl rfl rfl (Val.sub rfl rfl hk12) ?_;refine TD1.light rfl rfl rfl rfl (Val.faddr_ptr (fo := 1) rfl rfl rfl) ?_;refine TD1.read rfl rfl rfl rfl (Val.load_row (p := 1) rfl ⟨_, rfl, rfl⟩ rfl rfl rfl) ?_;refine TD1.light rfl rfl rfl rfl (Val.faddr_ptr (fo := 1) rfl rfl rfl) ?_;refine TD1.read rfl rfl rfl rfl (Val.load_row (p := 0) rfl ⟨_, rfl, rfl⟩ rfl rfl rfl) ?_;obtain ⟨hk17, h⟩ := chk_some h;refine TD1.light rfl rfl rfl rfl (Val.sub rfl rfl hk17) ?_;refine TD1.light rfl rfl rfl rfl (Val.faddr_ptr (fo := 2) rfl rfl rfl) ?_;refine TD1.read rfl rfl rfl rfl (Val.load_row (p := 1) rfl ⟨_, rfl, rfl⟩ rfl rfl rfl) ?_;refine TD1.read rfl rfl rfl rfl (Val.len_str rfl rfl) ?_;refine TD1.light rfl rfl rfl rfl (Val.faddr_ptr (fo := 2) rfl rfl rfl) ?_;refine TD1.read rfl rfl rfl rfl (Val.load_row (p := 0) rfl ⟨_, rfl, rfl⟩ rfl rfl rfl) ?_;refine TD1.read rfl rfl rfl rfl (Val.len_str rfl rfl) ?_;obtain ⟨hk24, h⟩ := chk_some h;refine TD1.light rfl rfl rfl rfl (Val.sub rfl rfl hk24) ?_;refine TD1.light rfl rfl rfl rfl (Val.faddr_ptr (fo := 2) rfl rfl rfl) ?_;refine TD1.read rfl rfl rfl rfl (Val.load_row (p := 1) rfl ⟨_, rfl, rfl⟩ rfl rfl rfl) ?_;refine TD1.light rfl rfl rfl rfl (Val.faddr_ptr (fo := 2) rfl rfl rfl) ?_;refine TD1.read rfl rfl rfl rfl (Val.load_row (p := 0) rfl ⟨_, rfl, rfl⟩ rfl rfl rfl) ?_;refine TD1.over (fun v => sameC_refl v) (all_cons (⟨_, rfl, (Val.load_row (p := 0) rfl ⟨_, rfl, rfl⟩ rfl rfl rfl)⟩) (all_cons (⟨_, rfl, (Val.load_row (p := 1) rfl ⟨_, rfl, rfl⟩ rfl rfl rfl)⟩) (all_cons (⟨_, rfl, (Val.len_str rfl rfl)⟩) (all_cons (⟨_, rfl, (Val.load_row (p := 0) rfl ⟨_, rfl, rfl⟩ rfl rfl rfl)⟩) (all_cons (⟨_, rfl, (Val.len_str rfl rfl)⟩) (all_cons (⟨_, rfl, (Val.load_row (p := 1) rfl ⟨_, rfl, rfl⟩ rfl rfl rfl)⟩) (all_cons (⟨_, rfl, (Val.load_row (p := 0) rfl ⟨_, rfl, rfl⟩ rfl rfl rfl)⟩) (all_cons (⟨_, rfl, (Val.load_row (p := 1) rfl ⟨_, rfl, rfl⟩ rfl rfl rfl)⟩) (all_cons (⟨_, rfl, (Val.load_row (p := 0) rfl ⟨_, rfl, rfl⟩ rfl rfl rfl)⟩) (all_cons (⟨_, rfl, (Val.load_row (p := 1) rfl ⟨_, rfl, rfl⟩ rfl rfl rfl)⟩) all_nil)))))))))) ?_;refine TD2.heavy (fun v => sameC_refl v) rfl (by decide) rfl rfl (OpS.call (v := iv (cmpS a_Suffix b_Suffix)) rfl rfl rfl orcC (.cons .lit (.cons .lit .nil)) rfl) ?_;rintro _ _ ⟨rfl, rfl⟩;refine ⟨(all_cons (.inl (by kernel_rfl)) (all_cons (.inl (by kernel_rfl)) (all_cons (.inr ⟨_, rfl, (Val.len_str rfl rfl)⟩) (all_cons (.inr ⟨_, rfl, (Val.load_row (p := 0) rfl ⟨_, rfl, rfl⟩ rfl rfl rfl)⟩) (all_cons (.inr ⟨_, rfl, (Val.len_str rfl rfl)⟩) (all_cons (.inr ⟨_, rfl, (Val.load_row (p := 1) rfl ⟨_, rfl, rfl⟩ rfl rfl rfl)⟩) (all_cons (.inr ⟨_, rfl, (Val.load_row (p := 0) rfl ⟨_, rfl, rfl⟩ rfl rfl rfl)⟩) (all_cons (.inr ⟨_, rfl, (Val.load_row (p := 1) rfl ⟨_, rfl, rfl⟩ rfl rfl rfl)⟩) (all_cons (.inr ⟨_, rfl, (Val.load_row (p := 0) rfl ⟨_, rfl, rfl⟩ rfl rfl rfl)⟩) (all_cons (.inr ⟨_, rfl, (Val.load_row (p := 1) rfl ⟨_, rfl, rfl⟩ rfl rfl rfl)⟩) all_nil)))))))))), all_nil, ?_⟩
  refine TD2.heavy (fun v => sameC_refl v) rfl (by decide) rfl rfl (OpS.eff (Eff.new (New.buildSlice (en := encI) (l := [(a_Class - b_Class), (a_Number - b_Number), ((a_Suffix.length : Int) - (b_Suffix.length : Int)), (cmpS a_Suffix b_Suffix)]) (vs := [(_, _), (_, _), (_, _), (_, _)]) (ws := [(_, [_]), (_, [_]), (_, [_]), (_, [_])]) ⟨rfl, rfl⟩ rfl rfl rfl rfl (CellsL.cons rfl (CellsL.cons rfl (CellsL.cons rfl (CellsL.cons rfl CellsL.nil)))) rfl rfl))) ?_;rintro _ _ ⟨v30, rfl, rfl⟩;refine ⟨(all_cons (.inl (by kernel_rfl)) (all_cons (.inl (by kernel_rfl)) (all_cons (.inl (by kernel_rfl)) (all_cons (.inl (by kernel_rfl)) (all_cons (.inl (by kernel_rfl)) (all_cons (.inl (by kernel_rfl)) (all_cons (.inl (by kernel_rfl)) (all_cons (.inl (by kernel_rfl)) (all_cons (.inl (by kernel_rfl)) (all_cons (.inl (by kernel_rfl)) all_nil)))))))))), all_nil, ?_⟩;refine TD2.less (Less.rowOwn (en := encI) (l := [(a_Class - b_Class), (a_Number - b_Number), ((a_Suffix.length : Int) - (b_Suffix.length : Int)), (cmpS a_Suffix b_Suffix)]) (p := 0) rfl) ?_;refine TD2.things (hs' := ownL false (.slice v30 0 (List.flatMap encI.f [(a_Class - b_Class), (a_Number - b_Number), ((a_Suffix.length : Int) - (b_Suffix.length : Int)), (cmpS a_Suffix b_Suffix)]).length true (List.length [(a_Class - b_Class), (a_Number - b_Number), ((a_Suffix.length : Int) - (b_Suffix.length : Int)), (cmpS a_Suffix b_Suffix)]) (List.length [(a_Class - b_Class), (a_Number - b_Number), ((a_Suffix.length : Int) - (b_Suffix.length : Int)), (cmpS a_Suffix b_Suffix)])) encI [(a_Class - b_Class), (a_Number - b_Number), ((a_Suffix.length : Int) - (b_Suffix.length : Int)), (cmpS a_Suffix b_Suffix)] :: .row b3 3 [iv (b_Class), iv (b_Number), sv b_Suffix] :: .row b2 3 [iv (a_Class), iv (a_Number), sv a_Suffix] :: C) rfl ?_;obtain ⟨y31, hr31, h⟩ := andx_some h;refine TD2.heavy (fun v => sameC_refl v) rfl (by decide) rfl rfl (OpS.callV rfl rfl rfl rfl (orcN rfl) (RepF.conv (tf_cmpOr (by first | decide | omega) (Rdl.mono (Rdl.own (C := ownL false (.slice v30 0 (List.flatMap encI.f [(a_Class - b_Class), (a_Number - b_Number), ((a_Suffix.length : Int) - (b_Suffix.length : Int)), (cmpS a_Suffix b_Suffix)]).length true (List.length [(a_Class - b_Class), (a_Number - b_Number), ((a_Suffix.length : Int) - (b_Suffix.length : Int)), (cmpS a_Suffix b_Suffix)]) (List.length [(a_Class - b_Class), (a_Number - b_Number), ((a_Suffix.length : Int) - (b_Suffix.length : Int)), (cmpS a_Suffix b_Suffix)])) encI [(a_Class - b_Class), (a_Number - b_Number), ((a_Suffix.length : Int) - (b_Suffix.length : Int)), (cmpS a_Suffix b_Suffix)] :: .row b3 3 [iv (b_Class), iv (b_Number), sv b_Suffix] :: .row b2 3 [iv (a_Class), iv (a_Number), sv a_Suffix] :: C) (p := 0) rfl) mem0) hr31))) ?_;rintro _ _ ⟨_, rfl, rfl⟩;refine ⟨(all_cons (.inl (by kernel_rfl)) (all_cons (.inl (by kernel_rfl)) (all_cons (.inl (by kernel_rfl)) (all_cons (.inl (by kernel_rfl)) (all_cons (.inl (by kernel_rfl)) (all_cons (.inl (by kernel_rfl)) (all_cons (.inl (by kernel_rfl)) (all_cons (.inl (by kernel_rfl)) (all_cons (.inl (by kernel_rfl)) (all_cons (.inl (by kernel_rfl)) all_nil)))))))))), all_nil, ?_⟩
  refine TD2.things (hs' := ownL false (.slice v30 0 (List.flatMap encI.f [(a_Class - b_Class), (a_Number - b_Number), ((a_Suffix.length : Int) - (b_Suffix.length : Int)), (cmpS a_Suffix b_Suffix)]).length true (List.length [(a_Class - b_Class), (a_Number - b_Number), ((a_Suffix.length : Int) - (b_Suffix.length : Int)), (cmpS a_Suffix b_Suffix)]) (List.length [(a_Class - b_Class), (a_Number - b_Number), ((a_Suffix.length : Int) - (b_Suffix.length : Int)), (cmpS a_Suffix b_Suffix)])) encI [(a_Class - b_Class), (a_Number - b_Number), ((a_Suffix.length : Int) - (b_Suffix.length : Int)), (cmpS a_Suffix b_Suffix)] :: .row b3 3 [iv (b_Class), iv (b_Number), sv b_Suffix] :: .row b2 3 [iv (a_Class), iv (a_Number), sv a_Suffix] :: C) rfl ?_;refine TD2.light rfl rfl rfl rfl (Val.assign rfl) ?_;refine TD2.nil ?_;refine T.ret ?_;cases h;exact ⟨rfl, _, rfl, ⟨(), rfl, (.drop (.drop (.drop .refl)))⟩⟩
set_option maxRecDepth 10000 in
theorem tf_s9_Before {k : Nat} (hk : 1 ≤ k) {C : List Thing} {v_r_Classes : AV} {r_Classes : List Str} {v_r_Shelves : AV} {r_Shelves : List S_api_SfShelf} {v_r_Books : AV} {r_Books : List S_api_SfBook} {a_Class : Int} {a_Number : Int} {a_Suffix : Str} {b_Class : Int} {b_Number : Int} {b_Suffix : Str} (ht_r_Classes : RdT encStr v_r_Classes r_Classes) (ht_r_Shelves : RdT enc_api_SfShelf v_r_Shelves r_Shelves) (ht_r_Books : RdT enc_api_SfBook v_r_Books r_Books) {r : Int × Int} (h : P_s9_Before r_Classes r_Shelves r_Books a_Class a_Number a_Suffix b_Class b_Number b_Suffix = some r) :
  TF (EL k) 22 [.agg [v_r_Classes, v_r_Shelves, v_r_Books], .agg [iv (a_Class), iv (a_Number), sv a_Suffix], .agg [iv (b_Class), iv (b_Number), sv b_Suffix]] C (RepF (fun (w : Unit) => .tuple [iv r.1, iv r.2]) (fun (w : Unit) => C)) := by
 unfold P_s9_Before at h
 have h_r_Classes : Rdl C encStr v_r_Classes r_Classes := RdT.rdl ht_r_Classes
 have h_r_Shelves : Rdl C enc_api_SfShelf v_r_Shelves r_Shelves := RdT.rdl ht_r_Shelves
 have h_r_Books : Rdl C enc_api_SfBook v_r_Books r_Books := RdT.rdl ht_r_Books;refine TF.enter (fn := Go.Proofs.Tryz.f22) rfl rfl rfl rfl rfl ?_;refine T.seq ?_;refine T.text rfl ?_;refine TO.box (k := 3) (cells := [_, _, _]) rfl rfl rfl rfl rfl rfl rfl (fun b3 => ?_);refine TO.box (k := 3) (cells := [_, _, _]) rfl rfl rfl rfl rfl rfl rfl (fun b4 => ?_);refine TO.box (k := 3) (cells := [_, _, _]) rfl rfl rfl rfl rfl rfl rfl (fun b5 => ?_);refine TO.val rfl rfl rfl (Val.assign rfl) ?_;refine TO.val rfl rfl rfl (Val.assign rfl) ?_;refine TO.nil ?_;refine T.seq ?_;refine T.text rfl ?_;refine TO.val rfl rfl rfl (Val.load_rows (p := 2) (c := [_, _, _]) rfl ⟨⟨_, rfl, rfl⟩, rfl, by decide⟩ rfl rfl rfl rfl) ?_;obtain ⟨y14, hr14, h⟩ := andx_some h;refine TO.callT (first := []) (cap := []) (vs := [.agg [v_r_Classes, v_r_Shelves, v_r_Books]]) rfl rfl rfl rfl rfl rfl (orcN rfl) (tf_s9_open (by first | decide | omega) (Rdl.mono h_r_Classes (memS (memS (memS (mem0))))) (Rdl.mono h_r_Shelves (memS (memS (memS (mem0))))) (Rdl.mono h_r_Books (memS (memS (memS (mem0))))) hr14) ?_;rintro _;refine TO.things (hs' := .row b5 3 [iv (b_Class), iv (b_Number), sv b_Suffix] :: .row b4 3 [iv (a_Class), iv (a_Number), sv a_Suffix] :: .row b3 3 [v_r_Classes, v_r_Shelves, v_r_Books] :: C) rfl ?_;refine TO.val rfl rfl rfl (Val.move rfl) ?_;refine TO.val rfl rfl rfl (Val.extract rfl rfl) ?_;refine TO.val rfl rfl rfl (Val.extract rfl rfl) ?_;refine TO.alloc (k := 3) (cells := [_, _, _]) rfl rfl rfl rfl rfl rfl rfl (fun b8 => ?_);refine TO.fact (rdl_cellS h_r_Classes (memS (memS (memS (memS (mem0)))))) (fun hor_Classes => ?_);refine TO.fact (rdl_cellS h_r_Shelves (memS (memS (memS (memS (mem0)))))) (fun hor_Shelves => ?_);refine TO.fact (rdl_cellS h_r_Books (memS (memS (memS (memS (mem0)))))) (fun hor_Books => ?_);refine TO.eff0 rfl rfl (Eff.store_row (p := 0) (cv := [_, _, _]) (cells' := [_, _, _]) rfl rfl rfl rfl rfl rfl rfl rfl (by first | rfl | (simp [GS.one, hor_Classes.2, hor_Shelves.2, hor_Books.2]; done) | (simp [GS.one, hor_Classes.2, hor_Shelves.2, hor_Books.2]; (repeat' apply And.intro) <;> rfl)) (by decide) rfl) ?_;rintro _ rfl;refine TO.things (hs' := .row b8 3 [v_r_Classes, v_r_Shelves, v_r_Books] :: .row b5 3 [iv (b_Class), iv (b_Number), sv b_Suffix] :: .row b4 3 [iv (a_Class), iv (a_Number), sv a_Suffix] :: .row b3 3 [v_r_Classes, v_r_Shelves, v_r_Books] :: C) rfl ?_;refine TO.val rfl rfl rfl (Val.assign rfl) ?_;refine TO.nil ?_
 show T _ _ _ _ _ _;apply T.joinA (r := r) (W := Unit) (fun (j : Int) (w : Unit) => ⟨[], [(4, .ptr b4 0 3), (5, .ptr b5 0 3), (9, iv (j))], .row b8 3 [v_r_Classes, v_r_Shelves, v_r_Books] :: .row b5 3 [iv (b_Class), iv (b_Number), sv b_Suffix] :: .row b4 3 [iv (a_Class), iv (a_Number), sv a_Suffix] :: C⟩) h
 ·intro j h;refine T.seq ?_;refine T.text rfl ?_;refine TO.val rfl rfl rfl (Val.load_rows (p := 2) (c := [_, _, _]) rfl ⟨⟨_, rfl, rfl⟩, rfl, by decide⟩ rfl rfl rfl rfl) ?_;refine TO.val rfl rfl rfl (Val.load_rows (p := 1) (c := [_, _, _]) rfl ⟨⟨_, rfl, rfl⟩, rfl, by decide⟩ rfl rfl rfl rfl) ?_;refine TO.eff rfl rfl rfl (Eff.new (New.buildSlice (en := enc_api_SfMark) (l := [(⟨a_Class, a_Number, a_Suffix⟩ : S_api_SfMark), (⟨b_Class, b_Number, b_Suffix⟩ : S_api_SfMark)]) (vs := [(_, _), (_, _)]) (ws := [(_, [_, _, _]), (_, [_, _, _])]) ⟨rfl, rfl⟩ rfl rfl rfl rfl (CellsL.cons rfl (CellsL.cons rfl CellsL.nil)) rfl rfl)) ?_;rintro _ _ ⟨v19, rfl, rfl⟩;refine TO.less (Less.rowOwn (en := enc_api_SfMark) (l := [(⟨a_Class, a_Number, a_Suffix⟩ : S_api_SfMark), (⟨b_Class, b_Number, b_Suffix⟩ : S_api_SfMark)]) (p := 0) rfl) ?_;refine TO.things (hs' := ownL false (.slice v19 0 (List.flatMap enc_api_SfMark.f [(⟨a_Class, a_Number, a_Suffix⟩ : S_api_SfMark), (⟨b_Class, b_Number, b_Suffix⟩ : S_api_SfMark)]).length true (List.length [(⟨a_Class, a_Number, a_Suffix⟩ : S_api_SfMark), (⟨b_Class, b_Number, b_Suffix⟩ : S_api_SfMark)]) (List.length [(⟨a_Class, a_Number, a_Suffix⟩ : S_api_SfMark), (⟨b_Class, b_Number, b_Suffix⟩ : S_api_SfMark)])) enc_api_SfMark [(⟨a_Class, a_Number, a_Suffix⟩ : S_api_SfMark), (⟨b_Class, b_Number, b_Suffix⟩ : S_api_SfMark)] :: .row b8 3 [v_r_Classes, v_r_Shelves, v_r_Books] :: .row b5 3 [iv (b_Class), iv (b_Number), sv b_Suffix] :: .row b4 3 [iv (a_Class), iv (a_Number), sv a_Suffix] :: .row b3 3 [v_r_Classes, v_r_Shelves, v_r_Books] :: C) rfl ?_;refine TO.val rfl rfl rfl (Val.len_own (p := 0) rfl rfl rfl) ?_;refine TO.val rfl rfl rfl (Val.move rfl) ?_;refine TO.nil ?_;refine T.block ?_
  show T _ _ _ _ _ _;apply T.iter (r := j) (W := Unit) (fun (j : Int × Int) (w : Unit) => ⟨[], [(4, .ptr b4 0 3), (5, .ptr b5 0 3), (8, .ptr b8 0 3), (9, iv (j.1)), (19, (.slice v19 0 (List.flatMap enc_api_SfMark.f [(⟨a_Class, a_Number, a_Suffix⟩ : S_api_SfMark), (⟨b_Class, b_Number, b_Suffix⟩ : S_api_SfMark)]).length true (List.length [(⟨a_Class, a_Number, a_Suffix⟩ : S_api_SfMark), (⟨b_Class, b_Number, b_Suffix⟩ : S_api_SfMark)]) (List.length [(⟨a_Class, a_Number, a_Suffix⟩ : S_api_SfMark), (⟨b_Class, b_Number, b_Suffix⟩ : S_api_SfMark)]))), (20, iv (([(⟨a_Class, a_Number, a_Suffix⟩ : S_api_SfMark), (⟨b_Class, b_Number, b_Suffix⟩ : S_api_SfMark)].length : Int))), (21, iv (j.2))], ownL false (.slice v19 0 (List.flatMap enc_api_SfMark.f [(⟨a_Class, a_Number, a_Suffix⟩ : S_api_SfMark), (⟨b_Class, b_Number, b_Suffix⟩ : S_api_SfMark)]).length true (List.length [(⟨a_Class, a_Number, a_Suffix⟩ : S_api_SfMark), (⟨b_Class, b_Number, b_Suffix⟩ : S_api_SfMark)]) (List.length [(⟨a_Class, a_Number, a_Suffix⟩ : S_api_SfMark), (⟨b_Class, b_Number, b_Suffix⟩ : S_api_SfMark)])) enc_api_SfMark [(⟨a_Class, a_Number, a_Suffix⟩ : S_api_SfMark), (⟨b_Class, b_Number, b_Suffix⟩ : S_api_SfMark)] :: .row b8 3 [v_r_Classes, v_r_Shelves, v_r_Books] :: .row b5 3 [iv (b_Class), iv (b_Number), sv b_Suffix] :: .row b4 3 [iv (a_Class), iv (a_Number), sv a_Suffix] :: C⟩) (w0 := ()) h
  ·exact ⟨rfl, (keep_cons rfl (keep_cons rfl (keep_cons rfl (keep_cons rfl (keep_cons rfl (keep_cons rfl (keep_cons rfl keep_nil))))))), (.pick (p := 0) rfl (.pick (p := 0) rfl (.pick (p := 0) rfl (.pick (p := 0) rfl (.drop .refl)))))⟩
  rintro ⟨e, x21⟩ _ a h;unfold P_s9_Before_L1 at h;dsimp only at h;refine T.at (s' := ⟨[], [(4, .ptr b4 0 3), (5, .ptr b5 0 3), (8, .ptr b8 0 3), (9, iv (e)), (19, (.slice v19 0 (List.flatMap enc_api_SfMark.f [(⟨a_Class, a_Number, a_Suffix⟩ : S_api_SfMark), (⟨b_Class, b_Number, b_Suffix⟩ : S_api_SfMark)]).length true (List.length [(⟨a_Class, a_Number, a_Suffix⟩ : S_api_SfMark), (⟨b_Class, b_Number, b_Suffix⟩ : S_api_SfMark)]) (List.length [(⟨a_Class, a_Number, a_Suffix⟩ : S_api_SfMark), (⟨b_Class, b_Number, b_Suffix⟩ : S_api_SfMark)]))), (20, iv (([(⟨a_Class, a_Number, a_Suffix⟩ : S_api_SfMark), (⟨b_Class, b_Number, b_Suffix⟩ : S_api_SfMark)].length : Int))), (21, iv (x21))], ownL false (.slice v19 0 (List.flatMap enc_api_SfMark.f [(⟨a_Class, a_Number, a_Suffix⟩ : S_api_SfMark), (⟨b_Class, b_Number, b_Suffix⟩ : S_api_SfMark)]).length true (List.length [(⟨a_Class, a_Number, a_Suffix⟩ : S_api_SfMark), (⟨b_Class, b_Number, b_Suffix⟩ : S_api_SfMark)]) (List.length [(⟨a_Class, a_Number, a_Suffix⟩ : S_api_SfMark), (⟨b_Class, b_Number, b_Suffix⟩ : S_api_SfMark)])) enc_api_SfMark [(⟨a_Class, a_Number, a_Suffix⟩ : S_api_SfMark), (⟨b_Class, b_Number, b_Suffix⟩ : S_api_SfMark)] :: .row b8 3 [v_r_Classes, v_r_Shelves, v_r_Books] :: .row b5 3 [iv (b_Class), iv (b_Number), sv b_Suffix] :: .row b4 3 [iv (a_Class), iv (a_Number), sv a_Suffix] :: C⟩) rfl ?_;refine T.seq ?_;refine T.text rfl ?_;obtain ⟨c22, hc22⟩ : ∃ c : Bool, c = decide (x21 < ([(⟨a_Class, a_Number, a_Suffix⟩ : S_api_SfMark), (⟨b_Class, b_Number, b_Suffix⟩ : S_api_SfMark)].length : Int)) := ⟨_, rfl⟩;refine TO.val rfl rfl rfl (Val.lss hc22 rfl rfl) ?_;refine TO.nil ?_;refine T.seq ?_;cases c22 with
  | true =>
   replace hc22 := of_decide_eq_true hc22.symm;rw [if_pos hc22] at h;refine T.condT (fun a ha => ha.ev (.tmp 22) _ rfl) ?_;refine T.skip ?_
   show T _ _ _ _ _ _;apply T.joinA (r := a) (W := Unit) (fun (j : Int) (w : Unit) => ⟨[], [(4, .ptr b4 0 3), (5, .ptr b5 0 3), (8, .ptr b8 0 3), (9, iv (j)), (19, (.slice v19 0 (List.flatMap enc_api_SfMark.f [(⟨a_Class, a_Number, a_Suffix⟩ : S_api_SfMark), (⟨b_Class, b_Number, b_Suffix⟩ : S_api_SfMark)]).length true (List.length [(⟨a_Class, a_Number, a_Suffix⟩ : S_api_SfMark), (⟨b_Class, b_Number, b_Suffix⟩ : S_api_SfMark)]) (List.length [(⟨a_Class, a_Number, a_Suffix⟩ : S_api_SfMark), (⟨b_Class, b_Number, b_Suffix⟩ : S_api_SfMark)]))), (20, iv (([(⟨a_Class, a_Number, a_Suffix⟩ : S_api_SfMark), (⟨b_Class, b_Number, b_Suffix⟩ : S_api_SfMark)].length : Int))), (21, iv (x21))], ownL false (.slice v19 0 (List.flatMap enc_api_SfMark.f [(⟨a_Class, a_Number, a_Suffix⟩ : S_api_SfMark), (⟨b_Class, b_Number, b_Suffix⟩ : S_api_SfMark)]).length true (List.length [(⟨a_Class, a_Number, a_Suffix⟩ : S_api_SfMark), (⟨b_Class, b_Number, b_Suffix⟩ : S_api_SfMark)]) (List.length [(⟨a_Class, a_Number, a_Suffix⟩ : S_api_SfMark), (⟨b_Class, b_Number, b_Suffix⟩ : S_api_SfMark)])) enc_api_SfMark [(⟨a_Class, a_Number, a_Suffix⟩ : S_api_SfMark), (⟨b_Class, b_Number, b_Suffix⟩ : S_api_SfMark)] :: .row b8 3 [v_r_Classes, v_r_Shelves, v_r_Books] :: .row b5 3 [iv (b_Class), iv (b_Number), sv b_Suffix] :: .row b4 3 [iv (a_Class), iv (a_Number), sv a_Suffix] :: C⟩) h
   ·intro j h;refine T.block ?_;refine T.seq ?_;refine T.text rfl ?_;obtain ⟨a23, hia23, ea23, h⟩ := el_some h;refine TO.fact (own_at (en := enc_api_SfMark) (p := 0) rfl hia23) (fun hp => ?_);obtain ⟨ida23, ata23⟩ := hp;refine TO.val rfl rfl rfl (Val.iaddr_at (en := enc_api_SfMark) ata23 ⟨rfl, rfl⟩ rfl rfl hia23) ?_;refine TO.val rfl rfl rfl (Val.load_ownP (en := enc_api_SfMark) (p := 0) (j := 0) (c := [_, _, _]) rfl ata23 ⟨⟨_, rfl, rfl⟩, rfl, by decide⟩ rfl ea23 rfl rfl) ?_;refine TO.alloc (k := 3) (cells := [_, _, _]) rfl rfl rfl rfl rfl rfl rfl (fun b11 => ?_);refine TO.eff0 rfl rfl (Eff.store_row (p := 0) (cv := [_, _, _]) (cells' := [_, _, _]) rfl rfl rfl rfl rfl rfl rfl rfl (by first | rfl | (simp [GS.one]; done)) (by decide) rfl) ?_;rintro _ rfl;refine TO.things (hs' := .row b11 3 [iv (a23.classv), iv (a23.number), sv a23.suffix] :: ownL false (.slice v19 0 (List.flatMap enc_api_SfMark.f [(⟨a_Class, a_Number, a_Suffix⟩ : S_api_SfMark), (⟨b_Class, b_Number, b_Suffix⟩ : S_api_SfMark)]).length true (List.length [(⟨a_Class, a_Number, a_Suffix⟩ : S_api_SfMark), (⟨b_Class, b_Number, b_Suffix⟩ : S_api_SfMark)]) (List.length [(⟨a_Class, a_Number, a_Suffix⟩ : S_api_SfMark), (⟨b_Class, b_Number, b_Suffix⟩ : S_api_SfMark)])) enc_api_SfMark [(⟨a_Class, a_Number, a_Suffix⟩ : S_api_SfMark), (⟨b_Class, b_Number, b_Suffix⟩ : S_api_SfMark)] :: .row b8 3 [v_r_Classes, v_r_Shelves, v_r_Books] :: .row b5 3 [iv (b_Class), iv (b_Number), sv b_Suffix] :: .row b4 3 [iv (a_Class), iv (a_Number), sv a_Suffix] :: C) rfl ?_;refine TO.nil ?_;refine T.seq ?_;refine T.text rfl ?_;refine TO.val rfl rfl rfl (Val.move rfl) ?_;obtain ⟨c26, hc26⟩ : ∃ c : Bool, c = decide (e = 0) := ⟨_, rfl⟩;refine TO.val rfl rfl rfl (Val.eql hc26 rfl rfl) ?_;refine TO.nil ?_;cases c26 with
    | true =>
     replace hc26 := of_decide_eq_true hc26.symm;rw [if_pos hc26] at h;refine T.condT (fun a ha => ha.ev (.tmp 26) _ rfl) ?_;refine T.text rfl ?_;refine TO.val rfl rfl rfl (Val.load_rows (p := 2) (c := [_, _, _]) rfl ⟨⟨_, rfl, rfl⟩, rfl, by decide⟩ rfl rfl rfl rfl) ?_;refine TO.val rfl rfl rfl (Val.load_rows (p := 0) (c := [_, _, _]) rfl ⟨⟨_, rfl, rfl⟩, rfl, by decide⟩ rfl rfl rfl rfl) ?_;obtain ⟨y29, hr29, h⟩ := andx_some h;refine TO.callT (first := []) (cap := []) (vs := [.agg [v_r_Classes, v_r_Shelves, v_r_Books], .agg [iv (a23.classv), iv (a23.number), sv a23.suffix]]) rfl rfl rfl rfl rfl rfl (orcN rfl) (tf_s9_mark (by first | decide | omega) (Rdl.mono h_r_Classes (memS (memS (memS (memS (memS (mem0))))))) (Rdl.mono h_r_Shelves (memS (memS (memS (memS (memS (mem0))))))) (Rdl.mono h_r_Books (memS (memS (memS (memS (memS (mem0))))))) hr29) ?_;rintro _;refine TO.things (hs' := .row b11 3 [iv (a23.classv), iv (a23.number), sv a23.suffix] :: ownL false (.slice v19 0 (List.flatMap enc_api_SfMark.f [(⟨a_Class, a_Number, a_Suffix⟩ : S_api_SfMark), (⟨b_Class, b_Number, b_Suffix⟩ : S_api_SfMark)]).length true (List.length [(⟨a_Class, a_Number, a_Suffix⟩ : S_api_SfMark), (⟨b_Class, b_Number, b_Suffix⟩ : S_api_SfMark)]) (List.length [(⟨a_Class, a_Number, a_Suffix⟩ : S_api_SfMark), (⟨b_Class, b_Number, b_Suffix⟩ : S_api_SfMark)])) enc_api_SfMark [(⟨a_Class, a_Number, a_Suffix⟩ : S_api_SfMark), (⟨b_Class, b_Number, b_Suffix⟩ : S_api_SfMark)] :: .row b8 3 [v_r_Classes, v_r_Shelves, v_r_Books] :: .row b5 3 [iv (b_Class), iv (b_Number), sv b_Suffix] :: .row b4 3 [iv (a_Class), iv (a_Number), sv a_Suffix] :: C) rfl ?_;refine TO.val rfl rfl rfl (Val.assign rfl) ?_;refine TO.nil ?_;cases h;exact ⟨rfl, (), ⟨rfl, (keep_cons rfl (keep_cons rfl (keep_cons rfl (keep_cons rfl (keep_cons rfl (keep_cons rfl (keep_cons rfl keep_nil))))))), (.pick (p := 1) rfl (.pick (p := 1) rfl (.pick (p := 1) rfl (.pick (p := 1) rfl (.drop .refl)))))⟩⟩
    | false =>
     replace hc26 := of_decide_eq_false hc26.symm;rw [if_neg hc26] at h;refine T.condF (fun a ha => ha.ev (.tmp 26) _ rfl) ?_;refine T.skip ?_;cases h;exact ⟨rfl, (), ⟨rfl, (keep_cons rfl (keep_cons rfl (keep_cons rfl (keep_cons rfl (keep_cons rfl (keep_cons rfl (keep_cons rfl keep_nil))))))), (.pick (p := 1) rfl (.pick (p := 1) rfl (.pick (p := 1) rfl (.pick (p := 1) rfl (.drop .refl)))))⟩⟩
   ·rintro e_2 _ h;skip;refine T.at (s' := ⟨[], [(4, .ptr b4 0 3), (5, .ptr b5 0 3), (8, .ptr b8 0 3), (9, iv (e_2)), (19, (.slice v19 0 (List.flatMap enc_api_SfMark.f [(⟨a_Class, a_Number, a_Suffix⟩ : S_api_SfMark), (⟨b_Class, b_Number, b_Suffix⟩ : S_api_SfMark)]).length true (List.length [(⟨a_Class, a_Number, a_Suffix⟩ : S_api_SfMark), (⟨b_Class, b_Number, b_Suffix⟩ : S_api_SfMark)]) (List.length [(⟨a_Class, a_Number, a_Suffix⟩ : S_api_SfMark), (⟨b_Class, b_Number, b_Suffix⟩ : S_api_SfMark)]))), (20, iv (([(⟨a_Class, a_Number, a_Suffix⟩ : S_api_SfMark), (⟨b_Class, b_Number, b_Suffix⟩ : S_api_SfMark)].length : Int))), (21, iv (x21))], ownL false (.slice v19 0 (List.flatMap enc_api_SfMark.f [(⟨a_Class, a_Number, a_Suffix⟩ : S_api_SfMark), (⟨b_Class, b_Number, b_Suffix⟩ : S_api_SfMark)]).length true (List.length [(⟨a_Class, a_Number, a_Suffix⟩ : S_api_SfMark), (⟨b_Class, b_Number, b_Suffix⟩ : S_api_SfMark)]) (List.length [(⟨a_Class, a_Number, a_Suffix⟩ : S_api_SfMark), (⟨b_Class, b_Number, b_Suffix⟩ : S_api_SfMark)])) enc_api_SfMark [(⟨a_Class, a_Number, a_Suffix⟩ : S_api_SfMark), (⟨b_Class, b_Number, b_Suffix⟩ : S_api_SfMark)] :: .row b8 3 [v_r_Classes, v_r_Shelves, v_r_Books] :: .row b5 3 [iv (b_Class), iv (b_Number), sv b_Suffix] :: .row b4 3 [iv (a_Class), iv (a_Number), sv a_Suffix] :: C⟩) rfl ?_;refine T.text rfl ?_;obtain ⟨hk30, h⟩ := chk_some h;refine TO.val rfl rfl rfl (Val.add rfl rfl hk30) ?_;refine TO.val rfl rfl rfl (Val.move rfl) ?_;refine TO.nil ?_;cases h;exact ⟨rfl, (), ⟨rfl, (keep_cons rfl (keep_cons rfl (keep_cons rfl (keep_cons rfl (keep_cons rfl (keep_cons rfl (keep_cons rfl keep_nil))))))), (.pick (p := 0) rfl (.pick (p := 0) rfl (.pick (p := 0) rfl (.pick (p := 0) rfl .refl))))⟩⟩
  | false =>
   replace hc22 := of_decide_eq_false hc22.symm;rw [if_neg hc22] at h;refine T.condF (fun a ha => ha.ev (.tmp 22) _ rfl) ?_;refine T.exit ?_;cases h;exact ⟨ex_ne, ⟨rfl, (), ⟨rfl, (keep_cons rfl (keep_cons rfl (keep_cons rfl keep_nil))), (.pick (p := 1) rfl (.pick (p := 1) rfl (.pick (p := 1) rfl (.drop .refl))))⟩⟩⟩
 ·rintro e _ h;skip;refine T.at (s' := ⟨[], [(4, .ptr b4 0 3), (5, .ptr b5 0 3), (9, iv (e))], .row b8 3 [v_r_Classes, v_r_Shelves, v_r_Books] :: .row b5 3 [iv (b_Class), iv (b_Number), sv b_Suffix] :: .row b4 3 [iv (a_Class), iv (a_Number), sv a_Suffix] :: C⟩) rfl ?_;refine T.seq ?_;refine T.seq ?_;refine T.text rfl ?_;refine TO.val rfl rfl rfl (Val.move rfl) ?_;obtain ⟨c32, hc32⟩ : ∃ c : Bool, c = decide (¬ e = 0) := ⟨_, rfl⟩;refine TO.val rfl rfl rfl (Val.neq hc32 rfl rfl) ?_;refine TO.nil ?_;cases c32 with
  | true =>
   replace hc32 := of_decide_eq_true hc32.symm;rw [if_pos hc32] at h;refine T.condT (fun a ha => ha.ev (.tmp 32) _ rfl) ?_;refine T.seq ?_;refine T.text rfl ?_;refine TO.val rfl rfl rfl (Val.move rfl) ?_;refine TO.val rfl rfl rfl (Val.assign rfl) ?_;refine TO.val rfl rfl rfl (Val.assign rfl) ?_;refine TO.nil ?_;refine T.ret ?_;cases h;exact ⟨rfl, _, rfl, ⟨(), rfl, (.drop (.drop (.drop .refl)))⟩⟩
  | false =>
   replace hc32 := of_decide_eq_false hc32.symm;rw [if_neg hc32] at h;refine T.condF (fun a ha => ha.ev (.tmp 32) _ rfl) ?_;refine T.skip ?_;refine T.seq ?_;refine T.text rfl ?_;refine TO.val rfl rfl rfl (Val.load_rows (p := 2) (c := [_, _, _]) rfl ⟨⟨_, rfl, rfl⟩, rfl, by decide⟩ rfl rfl rfl rfl) ?_;refine TO.val rfl rfl rfl (Val.load_rows (p := 1) (c := [_, _, _]) rfl ⟨⟨_, rfl, rfl⟩, rfl, by decide⟩ rfl rfl rfl rfl) ?_;obtain ⟨y36, hr36, h⟩ := andx_some h;refine TO.callT (first := []) (cap := []) (vs := [.agg [iv (a_Class), iv (a_Number), sv a_Suffix], .agg [iv (b_Class), iv (b_Number), sv b_Suffix]]) rfl rfl rfl rfl rfl rfl (orcN rfl) (tf_s9_compare (by first | decide | omega) hr36) ?_;rintro _;refine TO.things (hs' := .row b8 3 [v_r_Classes, v_r_Shelves, v_r_Books] :: .row b5 3 [iv (b_Class), iv (b_Number), sv b_Suffix] :: .row b4 3 [iv (a_Class), iv (a_Number), sv a_Suffix] :: C) rfl ?_;obtain ⟨y37, hr37, h⟩ := andx_some h;refine TO.callT (first := []) (cap := []) (vs := [iv (y36), iv (0)]) rfl rfl rfl rfl rfl rfl (orcN rfl) (tf_cmpInt (by first | decide | omega) hr37) ?_;rintro _;refine TO.things (hs' := .row b8 3 [v_r_Classes, v_r_Shelves, v_r_Books] :: .row b5 3 [iv (b_Class), iv (b_Number), sv b_Suffix] :: .row b4 3 [iv (a_Class), iv (a_Number), sv a_Suffix] :: C) rfl ?_;refine TO.val rfl rfl rfl (Val.assign rfl) ?_;refine TO.val rfl rfl rfl (Val.assign rfl) ?_;refine TO.nil ?_;refine T.ret ?_;cases h;exact ⟨rfl, _, rfl, ⟨(), rfl, (.drop (.drop (.drop .refl)))⟩⟩
theorem w_s9_Before (r_Classes : GS encStr) (r_Shelves : GS enc_api_SfShelf) (r_Books : GS enc_api_SfBook) (a_Class : Int) (a_Number : Int) (a_Suffix : Str) (b_Class : Int) (b_Number : Int) (b_Suffix : Str) (r : Int × Int) (h : P_s9_Before r_Classes.l r_Shelves.l r_Books.l a_Class a_Number a_Suffix b_Class b_Number b_Suffix = some r) : Comes (EL 1) 22 [.agg [r_Classes.v, r_Shelves.v, r_Books.v], .agg [iv (a_Class), iv (a_Number), sv a_Suffix], .agg [iv (b_Class), iv (b_Number), sv b_Suffix]] (.tuple [iv r.1, iv r.2]) :=
 TF.run (tf_s9_Before (Nat.le_refl _) (RdT.gs r_Classes) (RdT.gs r_Shelves) (RdT.gs r_Books) h) fun w => (.tuple (.cons .lit (.cons .lit .nil)))
set_option maxRecDepth 10000 in
theorem tf_law_ShelfOrder {k : Nat} (hk : 2 ≤ k) {C : List Thing} {v_r_Classes : AV} {r_Classes : List Str} {v_r_Shelves : AV} {r_Shelves : List S_api_SfShelf} {v_r_Books : AV} {r_Books : List S_api_SfBook} {x_0_Class : Int} {x_0_Number : Int} {x_0_Suffix : Str} {x_1_Class : Int} {x_1_Number : Int} {x_1_Suffix : Str} {x_2_Class : Int} {x_2_Number : Int} {x_2_Suffix : Str} (ht_r_Classes : RdT encStr v_r_Classes r_Classes) (ht_r_Shelves : RdT enc_api_SfShelf v_r_Shelves r_Shelves) (ht_r_Books : RdT enc_api_SfBook v_r_Books r_Books) {r : Bool} (h : P_law_ShelfOrder r_Classes r_Shelves r_Books x_0_Class x_0_Number x_0_Suffix x_1_Class x_1_Number x_1_Suffix x_2_Class x_2_Number x_2_Suffix = some r) :
  TF (EL k) 9 [.agg [v_r_Classes, v_r_Shelves, v_r_Books], .agg [iv (x_0_Class), iv (x_0_Number), sv x_0_Suffix, iv (x_1_Class), iv (x_1_Number), sv x_1_Suffix, iv (x_2_Class), iv (x_2_Number), sv x_2_Suffix]] C (RepF (fun (w : Unit) => bv r) (fun (w : Unit) => C)) := by
 unfold P_law_ShelfOrder at h
 have h_r_Classes : Rdl C encStr v_r_Classes r_Classes := RdT.rdl ht_r_Classes
 have h_r_Shelves : Rdl C enc_api_SfShelf v_r_Shelves r_Shelves := RdT.rdl ht_r_Shelves
 have h_r_Books : Rdl C enc_api_SfBook v_r_Books r_Books := RdT.rdl ht_r_Books;refine TF.enter (fn := Go.Proofs.Tryz.f9) rfl rfl rfl rfl rfl ?_;refine T.seq ?_;refine T.text rfl ?_;refine TO.box (k := 3) (cells := [_, _, _]) rfl rfl rfl rfl rfl rfl rfl (fun b2 => ?_);refine TO.box (k := 9) (cells := [_, _, _, _, _, _, _, _, _]) rfl rfl rfl rfl rfl rfl rfl (fun b3 => ?_);refine TO.val rfl rfl rfl (Val.assign rfl) ?_;refine TO.nil ?_;refine T.seq ?_;refine T.text rfl ?_;refine TO.val rfl rfl rfl (Val.load_rows (p := 1) (c := [_, _, _]) rfl ⟨⟨_, rfl, rfl⟩, rfl, by decide⟩ rfl rfl rfl rfl) ?_;refine TO.val rfl rfl rfl (Val.iaddr_array (m := 3) rfl rfl rfl rfl (by decide)) ?_;refine TO.val rfl rfl rfl (Val.load_rows (p := 0) (c := [_, _, _]) rfl ⟨⟨_, rfl, rfl⟩, rfl, by decide⟩ rfl rfl rfl rfl) ?_;refine TO.val rfl rfl rfl (Val.iaddr_array (m := 3) rfl rfl rfl rfl (by decide)) ?_;refine TO.val rfl rfl rfl (Val.load_rows (p := 0) (c := [_, _, _]) rfl ⟨⟨_, rfl, rfl⟩, rfl, by decide⟩ rfl rfl rfl rfl) ?_;obtain ⟨⟨y19, y19_2⟩, hr19, h⟩ := andx_some h;dsimp only at h;obtain ⟨g, hgg, hrg⟩ := Rdl.reif (hs := .row b3 3 [iv (x_0_Class), iv (x_0_Number), sv x_0_Suffix, iv (x_1_Class), iv (x_1_Number), sv x_1_Suffix, iv (x_2_Class), iv (x_2_Number), sv x_2_Suffix] :: .row b2 3 [v_r_Classes, v_r_Shelves, v_r_Books] :: C) h_r_Classes (memS (memS (mem0))) (ReifL.flat encStr_tr);obtain ⟨g_2, hgg_2, hrg_2⟩ := Rdl.reif (hs := .row b3 3 [iv (x_0_Class), iv (x_0_Number), sv x_0_Suffix, iv (x_1_Class), iv (x_1_Number), sv x_1_Suffix, iv (x_2_Class), iv (x_2_Number), sv x_2_Suffix] :: .row b2 3 [v_r_Classes, v_r_Shelves, v_r_Books] :: C) h_r_Shelves (memS (memS (mem0))) (ReifL.flat enc_api_SfShelf_tr);obtain ⟨g_3, hgg_3, hrg_3⟩ := Rdl.reif (hs := .row b3 3 [iv (x_0_Class), iv (x_0_Number), sv x_0_Suffix, iv (x_1_Class), iv (x_1_Number), sv x_1_Suffix, iv (x_2_Class), iv (x_2_Number), sv x_2_Suffix] :: .row b2 3 [v_r_Classes, v_r_Shelves, v_r_Books] :: C) h_r_Books (memS (memS (mem0))) (ReifL.flat enc_api_SfBook_tr);refine TO.call rfl rfl rfl rfl rfl (orcL rfl (by first | decide | omega)) (.cons (.agg (.cons (hrg _) (.cons (hrg_2 _) (.cons (hrg_3 _) .nil)))) (.cons (.agg (.cons .lit (.cons .lit (.cons .lit .nil)))) (.cons (.agg (.cons .lit (.cons .lit (.cons .lit .nil)))) .nil))) (sem_of (w_s9_Before g g_2 g_3 x_0_Class x_0_Number x_0_Suffix x_1_Class x_1_Number x_1_Suffix _ (by try rw [hgg]; try rw [hgg_2]; try rw [hgg_3]; exact hr19))) ?_;refine TO.val rfl rfl rfl (Val.move rfl) ?_;refine TO.val rfl rfl rfl (Val.extract rfl rfl) ?_;refine TO.val rfl rfl rfl (Val.extract rfl rfl) ?_;refine TO.val rfl rfl rfl (Val.assign rfl) ?_;refine TO.val rfl rfl rfl (Val.assign rfl) ?_;refine TO.nil ?_;refine T.seq ?_;refine T.text rfl ?_;refine TO.val rfl rfl rfl (Val.load_rows (p := 1) (c := [_, _, _]) rfl ⟨⟨_, rfl, rfl⟩, rfl, by decide⟩ rfl rfl rfl rfl) ?_;refine TO.val rfl rfl rfl (Val.iaddr_array (m := 3) rfl rfl rfl rfl (by decide)) ?_;refine TO.val rfl rfl rfl (Val.load_rows (p := 0) (c := [_, _, _]) rfl ⟨⟨_, rfl, rfl⟩, rfl, by decide⟩ rfl rfl rfl rfl) ?_
 refine TO.val rfl rfl rfl (Val.iaddr_array (m := 3) rfl rfl rfl rfl (by decide)) ?_;refine TO.val rfl rfl rfl (Val.load_rows (p := 0) (c := [_, _, _]) rfl ⟨⟨_, rfl, rfl⟩, rfl, by decide⟩ rfl rfl rfl rfl) ?_;obtain ⟨⟨y28, y28_2⟩, hr28, h⟩ := andx_some h;dsimp only at h;obtain ⟨g_4, hgg_4, hrg_4⟩ := Rdl.reif (hs := .row b3 3 [iv (x_0_Class), iv (x_0_Number), sv x_0_Suffix, iv (x_1_Class), iv (x_1_Number), sv x_1_Suffix, iv (x_2_Class), iv (x_2_Number), sv x_2_Suffix] :: .row b2 3 [v_r_Classes, v_r_Shelves, v_r_Books] :: C) h_r_Classes (memS (memS (mem0))) (ReifL.flat encStr_tr);obtain ⟨g_5, hgg_5, hrg_5⟩ := Rdl.reif (hs := .row b3 3 [iv (x_0_Class), iv (x_0_Number), sv x_0_Suffix, iv (x_1_Class), iv (x_1_Number), sv x_1_Suffix, iv (x_2_Class), iv (x_2_Number), sv x_2_Suffix] :: .row b2 3 [v_r_Classes, v_r_Shelves, v_r_Books] :: C) h_r_Shelves (memS (memS (mem0))) (ReifL.flat enc_api_SfShelf_tr);obtain ⟨g_6, hgg_6, hrg_6⟩ := Rdl.reif (hs := .row b3 3 [iv (x_0_Class), iv (x_0_Number), sv x_0_Suffix, iv (x_1_Class), iv (x_1_Number), sv x_1_Suffix, iv (x_2_Class), iv (x_2_Number), sv x_2_Suffix] :: .row b2 3 [v_r_Classes, v_r_Shelves, v_r_Books] :: C) h_r_Books (memS (memS (mem0))) (ReifL.flat enc_api_SfBook_tr);refine TO.call rfl rfl rfl rfl rfl (orcL rfl (by first | decide | omega)) (.cons (.agg (.cons (hrg_4 _) (.cons (hrg_5 _) (.cons (hrg_6 _) .nil)))) (.cons (.agg (.cons .lit (.cons .lit (.cons .lit .nil)))) (.cons (.agg (.cons .lit (.cons .lit (.cons .lit .nil)))) .nil))) (sem_of (w_s9_Before g_4 g_5 g_6 x_1_Class x_1_Number x_1_Suffix x_0_Class x_0_Number x_0_Suffix _ (by try rw [hgg_4]; try rw [hgg_5]; try rw [hgg_6]; exact hr28))) ?_;refine TO.val rfl rfl rfl (Val.move rfl) ?_;refine TO.val rfl rfl rfl (Val.extract rfl rfl) ?_;refine TO.val rfl rfl rfl (Val.extract rfl rfl) ?_;refine TO.val rfl rfl rfl (Val.assign rfl) ?_;refine TO.val rfl rfl rfl (Val.assign rfl) ?_;refine TO.nil ?_;refine T.seq ?_;refine T.text rfl ?_;refine TO.val rfl rfl rfl (Val.load_rows (p := 1) (c := [_, _, _]) rfl ⟨⟨_, rfl, rfl⟩, rfl, by decide⟩ rfl rfl rfl rfl) ?_;refine TO.val rfl rfl rfl (Val.iaddr_array (m := 3) rfl rfl rfl rfl (by decide)) ?_;refine TO.val rfl rfl rfl (Val.load_rows (p := 0) (c := [_, _, _]) rfl ⟨⟨_, rfl, rfl⟩, rfl, by decide⟩ rfl rfl rfl rfl) ?_;refine TO.val rfl rfl rfl (Val.iaddr_array (m := 3) rfl rfl rfl rfl (by decide)) ?_;refine TO.val rfl rfl rfl (Val.load_rows (p := 0) (c := [_, _, _]) rfl ⟨⟨_, rfl, rfl⟩, rfl, by decide⟩ rfl rfl rfl rfl) ?_;obtain ⟨⟨y37, y37_2⟩, hr37, h⟩ := andx_some h;dsimp only at h;obtain ⟨g_7, hgg_7, hrg_7⟩ := Rdl.reif (hs := .row b3 3 [iv (x_0_Class), iv (x_0_Number), sv x_0_Suffix, iv (x_1_Class), iv (x_1_Number), sv x_1_Suffix, iv (x_2_Class), iv (x_2_Number), sv x_2_Suffix] :: .row b2 3 [v_r_Classes, v_r_Shelves, v_r_Books] :: C) h_r_Classes (memS (memS (mem0))) (ReifL.flat encStr_tr);obtain ⟨g_8, hgg_8, hrg_8⟩ := Rdl.reif (hs := .row b3 3 [iv (x_0_Class), iv (x_0_Number), sv x_0_Suffix, iv (x_1_Class), iv (x_1_Number), sv x_1_Suffix, iv (x_2_Class), iv (x_2_Number), sv x_2_Suffix] :: .row b2 3 [v_r_Classes, v_r_Shelves, v_r_Books] :: C) h_r_Shelves (memS (memS (mem0))) (ReifL.flat enc_api_SfShelf_tr)
 obtain ⟨g_9, hgg_9, hrg_9⟩ := Rdl.reif (hs := .row b3 3 [iv (x_0_Class), iv (x_0_Number), sv x_0_Suffix, iv (x_1_Class), iv (x_1_Number), sv x_1_Suffix, iv (x_2_Class), iv (x_2_Number), sv x_2_Suffix] :: .row b2 3 [v_r_Classes, v_r_Shelves, v_r_Books] :: C) h_r_Books (memS (memS (mem0))) (ReifL.flat enc_api_SfBook_tr);refine TO.call rfl rfl rfl rfl rfl (orcL rfl (by first | decide | omega)) (.cons (.agg (.cons (hrg_7 _) (.cons (hrg_8 _) (.cons (hrg_9 _) .nil)))) (.cons (.agg (.cons .lit (.cons .lit (.cons .lit .nil)))) (.cons (.agg (.cons .lit (.cons .lit (.cons .lit .nil)))) .nil))) (sem_of (w_s9_Before g_7 g_8 g_9 x_1_Class x_1_Number x_1_Suffix x_2_Class x_2_Number x_2_Suffix _ (by try rw [hgg_7]; try rw [hgg_8]; try rw [hgg_9]; exact hr37))) ?_;refine TO.val rfl rfl rfl (Val.move rfl) ?_;refine TO.val rfl rfl rfl (Val.extract rfl rfl) ?_;refine TO.val rfl rfl rfl (Val.extract rfl rfl) ?_;refine TO.val rfl rfl rfl (Val.assign rfl) ?_;refine TO.val rfl rfl rfl (Val.assign rfl) ?_;refine TO.nil ?_;refine T.seq ?_;refine T.text rfl ?_;refine TO.val rfl rfl rfl (Val.load_rows (p := 1) (c := [_, _, _]) rfl ⟨⟨_, rfl, rfl⟩, rfl, by decide⟩ rfl rfl rfl rfl) ?_;refine TO.val rfl rfl rfl (Val.iaddr_array (m := 3) rfl rfl rfl rfl (by decide)) ?_;refine TO.val rfl rfl rfl (Val.load_rows (p := 0) (c := [_, _, _]) rfl ⟨⟨_, rfl, rfl⟩, rfl, by decide⟩ rfl rfl rfl rfl) ?_;refine TO.val rfl rfl rfl (Val.iaddr_array (m := 3) rfl rfl rfl rfl (by decide)) ?_;refine TO.val rfl rfl rfl (Val.load_rows (p := 0) (c := [_, _, _]) rfl ⟨⟨_, rfl, rfl⟩, rfl, by decide⟩ rfl rfl rfl rfl) ?_;obtain ⟨⟨y46, y46_2⟩, hr46, h⟩ := andx_some h;dsimp only at h;obtain ⟨g_10, hgg_10, hrg_10⟩ := Rdl.reif (hs := .row b3 3 [iv (x_0_Class), iv (x_0_Number), sv x_0_Suffix, iv (x_1_Class), iv (x_1_Number), sv x_1_Suffix, iv (x_2_Class), iv (x_2_Number), sv x_2_Suffix] :: .row b2 3 [v_r_Classes, v_r_Shelves, v_r_Books] :: C) h_r_Classes (memS (memS (mem0))) (ReifL.flat encStr_tr);obtain ⟨g_11, hgg_11, hrg_11⟩ := Rdl.reif (hs := .row b3 3 [iv (x_0_Class), iv (x_0_Number), sv x_0_Suffix, iv (x_1_Class), iv (x_1_Number), sv x_1_Suffix, iv (x_2_Class), iv (x_2_Number), sv x_2_Suffix] :: .row b2 3 [v_r_Classes, v_r_Shelves, v_r_Books] :: C) h_r_Shelves (memS (memS (mem0))) (ReifL.flat enc_api_SfShelf_tr);obtain ⟨g_12, hgg_12, hrg_12⟩ := Rdl.reif (hs := .row b3 3 [iv (x_0_Class), iv (x_0_Number), sv x_0_Suffix, iv (x_1_Class), iv (x_1_Number), sv x_1_Suffix, iv (x_2_Class), iv (x_2_Number), sv x_2_Suffix] :: .row b2 3 [v_r_Classes, v_r_Shelves, v_r_Books] :: C) h_r_Books (memS (memS (mem0))) (ReifL.flat enc_api_SfBook_tr);refine TO.call rfl rfl rfl rfl rfl (orcL rfl (by first | decide | omega)) (.cons (.agg (.cons (hrg_10 _) (.cons (hrg_11 _) (.cons (hrg_12 _) .nil)))) (.cons (.agg (.cons .lit (.cons .lit (.cons .lit .nil)))) (.cons (.agg (.cons .lit (.cons .lit (.cons .lit .nil)))) .nil))) (sem_of (w_s9_Before g_10 g_11 g_12 x_0_Class x_0_Number x_0_Suffix x_2_Class x_2_Number x_2_Suffix _ (by try rw [hgg_10]; try rw [hgg_11]; try rw [hgg_12]; exact hr46))) ?_
 refine TO.val rfl rfl rfl (Val.move rfl) ?_;refine TO.val rfl rfl rfl (Val.extract rfl rfl) ?_;refine TO.val rfl rfl rfl (Val.extract rfl rfl) ?_;refine TO.val rfl rfl rfl (Val.assign rfl) ?_;refine TO.val rfl rfl rfl (Val.assign rfl) ?_;refine TO.nil ?_
 show T _ _ _ _ _ _;apply T.join (r := r) (W := Unit) (fun (j : Unit) (w : Unit) => ⟨[], [(3, .ptr b3 0 9), (5, iv (y19)), (7, iv (y28)), (8, iv (y28_2)), (9, iv (y37)), (10, iv (y37_2)), (11, iv (y46)), (12, iv (y46_2))], .row b3 3 [iv (x_0_Class), iv (x_0_Number), sv x_0_Suffix, iv (x_1_Class), iv (x_1_Number), sv x_1_Suffix, iv (x_2_Class), iv (x_2_Number), sv x_2_Suffix] :: .row b2 3 [v_r_Classes, v_r_Shelves, v_r_Books] :: C⟩) h
 ·intro j h
  show T _ _ _ _ _ _;apply T.joinA (r := j) (W := Unit) (fun (j : Bool) (w : Unit) => ⟨[], [(3, .ptr b3 0 9), (5, iv (y19)), (6, iv (y19_2)), (7, iv (y28)), (8, iv (y28_2)), (9, iv (y37)), (10, iv (y37_2)), (11, iv (y46)), (12, iv (y46_2)), (55, bv j)], .row b3 3 [iv (x_0_Class), iv (x_0_Number), sv x_0_Suffix, iv (x_1_Class), iv (x_1_Number), sv x_1_Suffix, iv (x_2_Class), iv (x_2_Number), sv x_2_Suffix] :: .row b2 3 [v_r_Classes, v_r_Shelves, v_r_Books] :: C⟩) h
  ·intro j h;refine T.text rfl ?_;refine TO.val rfl rfl rfl (Val.load_rows (p := 1) (c := [_, _, _]) rfl ⟨⟨_, rfl, rfl⟩, rfl, by decide⟩ rfl rfl rfl rfl) ?_;obtain ⟨y50, hr50, h⟩ := andx_some h;refine TO.callT (first := []) (cap := []) (vs := [.agg [v_r_Classes, v_r_Shelves, v_r_Books]]) rfl rfl rfl rfl rfl rfl (orcN rfl) (tf_law9_valid (by first | decide | omega) (Rdl.mono h_r_Classes (memS (memS (mem0)))) (Rdl.mono h_r_Shelves (memS (memS (mem0)))) (Rdl.mono h_r_Books (memS (memS (mem0)))) hr50) ?_;rintro _;refine TO.things (hs' := .row b3 3 [iv (x_0_Class), iv (x_0_Number), sv x_0_Suffix, iv (x_1_Class), iv (x_1_Number), sv x_1_Suffix, iv (x_2_Class), iv (x_2_Number), sv x_2_Suffix] :: .row b2 3 [v_r_Classes, v_r_Shelves, v_r_Books] :: C) rfl ?_;refine TO.val rfl rfl rfl (Val.not rfl) ?_;refine TO.val rfl rfl rfl (Val.move rfl) ?_;cases y50 with
   | true =>
    rw [if_pos rfl] at h;refine TO.val rfl rfl rfl (Val.move rfl) ?_;obtain ⟨c54, hc54⟩ : ∃ c : Bool, c = decide (¬ y19_2 = 0) := ⟨_, rfl⟩;refine TO.val rfl rfl rfl (Val.neq hc54 rfl rfl) ?_;refine TO.val rfl rfl rfl (Val.pick rfl rfl rfl) ?_;refine TO.nil ?_;subst hc54;cases h;exact ⟨rfl, (), ⟨rfl, (keep_cons rfl (keep_cons rfl (keep_cons rfl (keep_cons rfl (keep_cons rfl (keep_cons rfl (keep_cons rfl (keep_cons rfl (keep_cons rfl (keep_cons rfl keep_nil)))))))))), (.pick (p := 0) rfl (.pick (p := 0) rfl .refl))⟩⟩
   | false =>
    rw [if_neg Bool.false_ne_true] at h;refine TO.off rfl rfl rfl ?_;refine TO.off rfl rfl rfl ?_;refine TO.val rfl rfl rfl (Val.pick rfl rfl rfl) ?_;refine TO.nil ?_;cases h;exact ⟨rfl, (), ⟨rfl, (keep_cons rfl (keep_cons rfl (keep_cons rfl (keep_cons rfl (keep_cons rfl (keep_cons rfl (keep_cons rfl (keep_cons rfl (keep_cons rfl (keep_cons rfl keep_nil)))))))))), (.pick (p := 0) rfl (.pick (p := 0) rfl .refl))⟩⟩
  ·rintro x55 _ h;skip;refine T.at (s' := ⟨[], [(3, .ptr b3 0 9), (5, iv (y19)), (6, iv (y19_2)), (7, iv (y28)), (8, iv (y28_2)), (9, iv (y37)), (10, iv (y37_2)), (11, iv (y46)), (12, iv (y46_2)), (55, bv x55)], .row b3 3 [iv (x_0_Class), iv (x_0_Number), sv x_0_Suffix, iv (x_1_Class), iv (x_1_Number), sv x_1_Suffix, iv (x_2_Class), iv (x_2_Number), sv x_2_Suffix] :: .row b2 3 [v_r_Classes, v_r_Shelves, v_r_Books] :: C⟩) rfl ?_;cases x55 with
   | true =>
    rw [if_pos rfl] at h;refine T.condT (fun a ha => ha.ev (.tmp 55) _ rfl) ?_
    show T _ _ _ _ _ _;apply T.joinA (r := j) (W := Unit) (fun (j : Bool) (w : Unit) => ⟨[], [(4, bv j)], .row b3 3 [iv (x_0_Class), iv (x_0_Number), sv x_0_Suffix, iv (x_1_Class), iv (x_1_Number), sv x_1_Suffix, iv (x_2_Class), iv (x_2_Number), sv x_2_Suffix] :: .row b2 3 [v_r_Classes, v_r_Shelves, v_r_Books] :: C⟩) h
    ·intro j h;refine T.text rfl ?_;refine TO.val rfl rfl rfl (Val.move rfl) ?_;obtain ⟨c57, hc57⟩ : ∃ c : Bool, c = decide (¬ y19_2 = 0) := ⟨_, rfl⟩;refine TO.val rfl rfl rfl (Val.neq hc57 rfl rfl) ?_;refine TO.val rfl rfl rfl (Val.move rfl) ?_;cases c57 with
     | true =>
      replace hc57 := of_decide_eq_true hc57.symm;rw [if_pos hc57] at h;refine TO.val rfl rfl rfl (Val.move rfl) ?_;obtain ⟨c60, hc60⟩ : ∃ c : Bool, c = decide (¬ y28_2 = 0) := ⟨_, rfl⟩;refine TO.val rfl rfl rfl (Val.neq hc60 rfl rfl) ?_;refine TO.val rfl rfl rfl (Val.pick rfl rfl rfl) ?_;refine TO.val rfl rfl rfl (Val.move rfl) ?_;cases c60 with
      | true =>
       replace hc60 := of_decide_eq_true hc60.symm;rw [if_pos hc60] at h;refine TO.val rfl rfl rfl (Val.move rfl) ?_;obtain ⟨c64, hc64⟩ : ∃ c : Bool, c = decide (y19 = 0) := ⟨_, rfl⟩;refine TO.val rfl rfl rfl (Val.eql hc64 rfl rfl) ?_;refine TO.val rfl rfl rfl (Val.pick rfl rfl rfl) ?_;refine TO.val rfl rfl rfl (Val.move rfl) ?_;cases c64 with
       | true =>
        replace hc64 := of_decide_eq_true hc64.symm;rw [if_pos hc64] at h;refine TO.val rfl rfl rfl (Val.move rfl) ?_;obtain ⟨c68, hc68⟩ : ∃ c : Bool, c = decide (y28 = 0) := ⟨_, rfl⟩;refine TO.val rfl rfl rfl (Val.eql hc68 rfl rfl) ?_;refine TO.val rfl rfl rfl (Val.pick rfl rfl rfl) ?_;refine TO.val rfl rfl rfl (Val.move rfl) ?_;cases c68 with
        | true =>
         replace hc68 := of_decide_eq_true hc68.symm;rw [if_pos hc68] at h;refine TO.call rfl rfl rfl rfl rfl orcA .nil rfl ?_;refine TO.val rfl rfl rfl (Val.pick rfl rfl rfl) ?_;refine TO.val rfl rfl rfl (Val.assign rfl) ?_;refine TO.nil ?_;cases h;exact ⟨rfl, (), ⟨rfl, (keep_cons rfl keep_nil), (.pick (p := 0) rfl (.pick (p := 0) rfl .refl))⟩⟩
        | false =>
         replace hc68 := of_decide_eq_false hc68.symm;rw [if_neg hc68] at h;refine TO.off rfl rfl rfl ?_;refine TO.val rfl rfl rfl (Val.pick rfl rfl rfl) ?_;refine TO.val rfl rfl rfl (Val.assign rfl) ?_;refine TO.nil ?_;cases h;exact ⟨rfl, (), ⟨rfl, (keep_cons rfl keep_nil), (.pick (p := 0) rfl (.pick (p := 0) rfl .refl))⟩⟩
       | false =>
        replace hc64 := of_decide_eq_false hc64.symm;rw [if_neg hc64] at h;refine TO.off rfl rfl rfl ?_;refine TO.off rfl rfl rfl ?_;refine TO.val rfl rfl rfl (Val.pick rfl rfl rfl) ?_;refine TO.val rfl rfl rfl (Val.move rfl) ?_;refine TO.off rfl rfl rfl ?_;refine TO.val rfl rfl rfl (Val.pick rfl rfl rfl) ?_;refine TO.val rfl rfl rfl (Val.assign rfl) ?_;refine TO.nil ?_;cases h;exact ⟨rfl, (), ⟨rfl, (keep_cons rfl keep_nil), (.pick (p := 0) rfl (.pick (p := 0) rfl .refl))⟩⟩
      | false =>
       replace hc60 := of_decide_eq_false hc60.symm;rw [if_neg hc60] at h;refine TO.off rfl rfl rfl ?_;refine TO.off rfl rfl rfl ?_;refine TO.val rfl rfl rfl (Val.pick rfl rfl rfl) ?_;refine TO.val rfl rfl rfl (Val.move rfl) ?_;refine TO.off rfl rfl rfl ?_;refine TO.off rfl rfl rfl ?_;refine TO.val rfl rfl rfl (Val.pick rfl rfl rfl) ?_;refine TO.val rfl rfl rfl (Val.move rfl) ?_;refine TO.off rfl rfl rfl ?_;refine TO.val rfl rfl rfl (Val.pick rfl rfl rfl) ?_;refine TO.val rfl rfl rfl (Val.assign rfl) ?_;refine TO.nil ?_;cases h;exact ⟨rfl, (), ⟨rfl, (keep_cons rfl keep_nil), (.pick (p := 0) rfl (.pick (p := 0) rfl .refl))⟩⟩
     | false =>
      replace hc57 := of_decide_eq_false hc57.symm;rw [if_neg hc57] at h;refine TO.off rfl rfl rfl ?_;refine TO.off rfl rfl rfl ?_;refine TO.val rfl rfl rfl (Val.pick rfl rfl rfl) ?_;refine TO.val rfl rfl rfl (Val.move rfl) ?_;refine TO.off rfl rfl rfl ?_;refine TO.off rfl rfl rfl ?_;refine TO.val rfl rfl rfl (Val.pick rfl rfl rfl) ?_;refine TO.val rfl rfl rfl (Val.move rfl) ?_;refine TO.off rfl rfl rfl ?_;refine TO.off rfl rfl rfl ?_;refine TO.val rfl rfl rfl (Val.pick rfl rfl rfl) ?_;refine TO.val rfl rfl rfl (Val.move rfl) ?_;refine TO.off rfl rfl rfl ?_;refine TO.val rfl rfl rfl (Val.pick rfl rfl rfl) ?_;refine TO.val rfl rfl rfl (Val.assign rfl) ?_;refine TO.nil ?_;cases h;exact ⟨rfl, (), ⟨rfl, (keep_cons rfl keep_nil), (.pick (p := 0) rfl (.pick (p := 0) rfl .refl))⟩⟩
    ·rintro x4 _ h;skip;refine T.at (s' := ⟨[], [(4, bv x4)], .row b3 3 [iv (x_0_Class), iv (x_0_Number), sv x_0_Suffix, iv (x_1_Class), iv (x_1_Number), sv x_1_Suffix, iv (x_2_Class), iv (x_2_Number), sv x_2_Suffix] :: .row b2 3 [v_r_Classes, v_r_Shelves, v_r_Books] :: C⟩) rfl ?_;refine T.ret ?_;cases h;exact ⟨ret_ne, ⟨rfl, _, rfl, ⟨(), rfl, (.drop (.drop .refl))⟩⟩⟩
   | false =>
    rw [if_neg Bool.false_ne_true] at h;refine T.condF (fun a ha => ha.ev (.tmp 55) _ rfl) ?_;refine T.skip ?_;cases h;exact ⟨rfl, (), ⟨rfl, (keep_cons rfl (keep_cons rfl (keep_cons rfl (keep_cons rfl (keep_cons rfl (keep_cons rfl (keep_cons rfl (keep_cons rfl keep_nil)))))))), (.pick (p := 0) rfl (.pick (p := 0) rfl .refl))⟩⟩
 ·rintro _ _ h;skip;refine T.at (s' := ⟨[], [(3, .ptr b3 0 9), (5, iv (y19)), (7, iv (y28)), (8, iv (y28_2)), (9, iv (y37)), (10, iv (y37_2)), (11, iv (y46)), (12, iv (y46_2))], .row b3 3 [iv (x_0_Class), iv (x_0_Number), sv x_0_Suffix, iv (x_1_Class), iv (x_1_Number), sv x_1_Suffix, iv (x_2_Class), iv (x_2_Number), sv x_2_Suffix] :: .row b2 3 [v_r_Classes, v_r_Shelves, v_r_Books] :: C⟩) rfl ?_
  show T _ _ _ _ _ _;apply T.join (r := r) (W := Unit) (fun (j : Unit) (w : Unit) => ⟨[], [(5, iv (y19)), (9, iv (y37)), (10, iv (y37_2)), (11, iv (y46)), (12, iv (y46_2))], .row b3 3 [iv (x_0_Class), iv (x_0_Number), sv x_0_Suffix, iv (x_1_Class), iv (x_1_Number), sv x_1_Suffix, iv (x_2_Class), iv (x_2_Number), sv x_2_Suffix] :: .row b2 3 [v_r_Classes, v_r_Shelves, v_r_Books] :: C⟩) h
  ·intro j h
   show T _ _ _ _ _ _;apply T.joinA (r := j) (W := Unit) (fun (j : Bool) (w : Unit) => ⟨[], [(5, iv (y19)), (9, iv (y37)), (10, iv (y37_2)), (11, iv (y46)), (12, iv (y46_2)), (98, bv j)], .row b3 3 [iv (x_0_Class), iv (x_0_Number), sv x_0_Suffix, iv (x_1_Class), iv (x_1_Number), sv x_1_Suffix, iv (x_2_Class), iv (x_2_Number), sv x_2_Suffix] :: .row b2 3 [v_r_Classes, v_r_Shelves, v_r_Books] :: C⟩) h
   ·intro j h;refine T.text rfl ?_;refine TO.val rfl rfl rfl (Val.move rfl) ?_;obtain ⟨c74, hc74⟩ : ∃ c : Bool, c = decide (¬ y28_2 = 0) := ⟨_, rfl⟩;refine TO.val rfl rfl rfl (Val.neq hc74 rfl rfl) ?_;refine TO.val rfl rfl rfl (Val.move rfl) ?_;cases c74 with
    | true =>
     replace hc74 := of_decide_eq_true hc74.symm;rw [if_pos hc74] at h;refine TO.off rfl rfl rfl ?_;refine TO.off rfl rfl rfl ?_;refine TO.off rfl rfl rfl ?_;refine TO.off rfl rfl rfl ?_;refine TO.val rfl rfl rfl (Val.pick rfl rfl rfl) ?_;refine TO.val rfl rfl rfl (Val.move rfl) ?_;refine TO.off rfl rfl rfl ?_;refine TO.off rfl rfl rfl ?_;refine TO.off rfl rfl rfl ?_;refine TO.off rfl rfl rfl ?_;refine TO.off rfl rfl rfl ?_;refine TO.off rfl rfl rfl ?_;refine TO.off rfl rfl rfl ?_;refine TO.off rfl rfl rfl ?_;refine TO.val rfl rfl rfl (Val.pick rfl rfl rfl) ?_;refine TO.val rfl rfl rfl (Val.move rfl) ?_;refine TO.off rfl rfl rfl ?_;refine TO.off rfl rfl rfl ?_;refine TO.val rfl rfl rfl (Val.pick rfl rfl rfl) ?_;refine TO.val rfl rfl rfl (Val.move rfl) ?_;refine TO.off rfl rfl rfl ?_;refine TO.off rfl rfl rfl ?_;refine TO.val rfl rfl rfl (Val.pick rfl rfl rfl) ?_;refine TO.nil ?_;cases h;exact ⟨rfl, (), ⟨rfl, (keep_cons rfl (keep_cons rfl (keep_cons rfl (keep_cons rfl (keep_cons rfl (keep_cons rfl keep_nil)))))), (.pick (p := 0) rfl (.pick (p := 0) rfl .refl))⟩⟩
    | false =>
     replace hc74 := of_decide_eq_false hc74.symm;rw [if_neg hc74] at h;refine TO.val rfl rfl rfl (Val.move rfl) ?_;refine TO.val rfl rfl rfl (Val.move rfl) ?_;obtain ⟨hk78, h⟩ := chk_some h;refine TO.val rfl rfl rfl (Val.neg rfl hk78) ?_;obtain ⟨c79, hc79⟩ : ∃ c : Bool, c = decide (¬ y19 = (-y28)) := ⟨_, rfl⟩;refine TO.val rfl rfl rfl (Val.neq hc79 rfl rfl) ?_;refine TO.val rfl rfl rfl (Val.pick rfl rfl rfl) ?_;refine TO.val rfl rfl rfl (Val.move rfl) ?_;cases c79 with
     | true =>
      replace hc79 := of_decide_eq_true hc79.symm;rw [if_pos hc79] at h;refine TO.off rfl rfl rfl ?_;refine TO.off rfl rfl rfl ?_;refine TO.off rfl rfl rfl ?_;refine TO.off rfl rfl rfl ?_;refine TO.off rfl rfl rfl ?_;refine TO.off rfl rfl rfl ?_;refine TO.off rfl rfl rfl ?_;refine TO.off rfl rfl rfl ?_;refine TO.val rfl rfl rfl (Val.pick rfl rfl rfl) ?_;refine TO.val rfl rfl rfl (Val.move rfl) ?_;refine TO.off rfl rfl rfl ?_;refine TO.off rfl rfl rfl ?_;refine TO.val rfl rfl rfl (Val.pick rfl rfl rfl) ?_;refine TO.val rfl rfl rfl (Val.move rfl) ?_;refine TO.off rfl rfl rfl ?_;refine TO.off rfl rfl rfl ?_;refine TO.val rfl rfl rfl (Val.pick rfl rfl rfl) ?_;refine TO.nil ?_;cases h;exact ⟨rfl, (), ⟨rfl, (keep_cons rfl (keep_cons rfl (keep_cons rfl (keep_cons rfl (keep_cons rfl (keep_cons rfl keep_nil)))))), (.pick (p := 0) rfl (.pick (p := 0) rfl .refl))⟩⟩
     | false =>
      replace hc79 := of_decide_eq_false hc79.symm;rw [if_neg hc79] at h;refine TO.val rfl rfl rfl (Val.move rfl) ?_;obtain ⟨c83, hc83⟩ : ∃ c : Bool, c = decide (y19 = 0) := ⟨_, rfl⟩;refine TO.val rfl rfl rfl (Val.eql hc83 rfl rfl) ?_;refine TO.val rfl rfl rfl (Val.iaddr_array (m := 3) rfl rfl rfl rfl (by decide)) ?_;refine TO.val rfl rfl rfl (Val.load_rows (p := 0) (c := [_, _, _]) rfl ⟨⟨_, rfl, rfl⟩, rfl, by decide⟩ rfl rfl rfl rfl) ?_;refine TO.val rfl rfl rfl (Val.iaddr_array (m := 3) rfl rfl rfl rfl (by decide)) ?_;refine TO.val rfl rfl rfl (Val.load_rows (p := 0) (c := [_, _, _]) rfl ⟨⟨_, rfl, rfl⟩, rfl, by decide⟩ rfl rfl rfl rfl) ?_;obtain ⟨c88, hc88⟩ : ∃ c : Bool, c = decide (x_0_Class = x_1_Class ∧ x_0_Number = x_1_Number ∧ x_0_Suffix = x_1_Suffix) := ⟨_, rfl⟩;refine TO.val rfl rfl rfl (Val.binD hc88 rfl rfl (eql_ty28 _ _ _ _ _ _ _ _)) ?_;subst hc83;subst hc88;obtain ⟨c89, hc89⟩ : ∃ c : Bool, c = decide (¬ ((decide (y19 = 0)) = (decide (x_0_Class = x_1_Class ∧ x_0_Number = x_1_Number ∧ x_0_Suffix = x_1_Suffix)))) := ⟨_, rfl⟩;refine TO.val rfl rfl rfl (Val.bneq bo_ty4 hc89 rfl rfl) ?_;refine TO.val rfl rfl rfl (Val.pick rfl rfl rfl) ?_;refine TO.val rfl rfl rfl (Val.move rfl) ?_;cases c89 with
      | true =>
       replace hc89 := of_decide_eq_true hc89.symm;rw [if_pos hc89] at h;refine TO.off rfl rfl rfl ?_;refine TO.off rfl rfl rfl ?_;refine TO.val rfl rfl rfl (Val.pick rfl rfl rfl) ?_;refine TO.val rfl rfl rfl (Val.move rfl) ?_;refine TO.off rfl rfl rfl ?_;refine TO.off rfl rfl rfl ?_;refine TO.val rfl rfl rfl (Val.pick rfl rfl rfl) ?_;refine TO.nil ?_;cases h;exact ⟨rfl, (), ⟨rfl, (keep_cons rfl (keep_cons rfl (keep_cons rfl (keep_cons rfl (keep_cons rfl (keep_cons rfl keep_nil)))))), (.pick (p := 0) rfl (.pick (p := 0) rfl .refl))⟩⟩
      | false =>
       replace hc89 := of_decide_eq_false hc89.symm;rw [if_neg hc89] at h;refine TO.val rfl rfl rfl (Val.move rfl) ?_;obtain ⟨c93, hc93⟩ : ∃ c : Bool, c = decide (y19 < (-1)) := ⟨_, rfl⟩;refine TO.val rfl rfl rfl (Val.lss hc93 rfl rfl) ?_;refine TO.val rfl rfl rfl (Val.pick rfl rfl rfl) ?_;refine TO.val rfl rfl rfl (Val.move rfl) ?_;cases c93 with
       | true =>
        replace hc93 := of_decide_eq_true hc93.symm;rw [if_pos hc93] at h;refine TO.off rfl rfl rfl ?_;refine TO.off rfl rfl rfl ?_;refine TO.val rfl rfl rfl (Val.pick rfl rfl rfl) ?_;refine TO.nil ?_;cases h;exact ⟨rfl, (), ⟨rfl, (keep_cons rfl (keep_cons rfl (keep_cons rfl (keep_cons rfl (keep_cons rfl (keep_cons rfl keep_nil)))))), (.pick (p := 0) rfl (.pick (p := 0) rfl .refl))⟩⟩
       | false =>
        replace hc93 := of_decide_eq_false hc93.symm;rw [if_neg hc93] at h;refine TO.val rfl rfl rfl (Val.move rfl) ?_;obtain ⟨c97, hc97⟩ : ∃ c : Bool, c = decide (y19 > 1) := ⟨_, rfl⟩;refine TO.val rfl rfl rfl (Val.gtr hc97 rfl rfl) ?_;refine TO.val rfl rfl rfl (Val.pick rfl rfl rfl) ?_;refine TO.nil ?_;subst hc97;cases h;exact ⟨rfl, (), ⟨rfl, (keep_cons rfl (keep_cons rfl (keep_cons rfl (keep_cons rfl (keep_cons rfl (keep_cons rfl keep_nil)))))), (.pick (p := 0) rfl (.pick (p := 0) rfl .refl))⟩⟩
   ·rintro x98 _ h;skip;refine T.at (s' := ⟨[], [(5, iv (y19)), (9, iv (y37)), (10, iv (y37_2)), (11, iv (y46)), (12, iv (y46_2)), (98, bv x98)], .row b3 3 [iv (x_0_Class), iv (x_0_Number), sv x_0_Suffix, iv (x_1_Class), iv (x_1_Number), sv x_1_Suffix, iv (x_2_Class), iv (x_2_Number), sv x_2_Suffix] :: .row b2 3 [v_r_Classes, v_r_Shelves, v_r_Books] :: C⟩) rfl ?_;cases x98 with
    | true =>
     rw [if_pos rfl] at h;refine T.condT (fun a ha => ha.ev (.tmp 98) _ rfl) ?_;refine T.seq ?_;refine T.text rfl ?_;refine TO.val rfl rfl rfl (Val.assign rfl) ?_;refine TO.nil ?_;refine T.ret ?_;cases h;exact ⟨ret_ne, ⟨rfl, _, rfl, ⟨(), rfl, (.drop (.drop .refl))⟩⟩⟩
    | false =>
     rw [if_neg Bool.false_ne_true] at h;refine T.condF (fun a ha => ha.ev (.tmp 98) _ rfl) ?_;refine T.skip ?_;cases h;exact ⟨rfl, (), ⟨rfl, (keep_cons rfl (keep_cons rfl (keep_cons rfl (keep_cons rfl (keep_cons rfl keep_nil))))), (.pick (p := 0) rfl (.pick (p := 0) rfl .refl))⟩⟩
  ·rintro _ _ h;skip;refine T.at (s' := ⟨[], [(5, iv (y19)), (9, iv (y37)), (10, iv (y37_2)), (11, iv (y46)), (12, iv (y46_2))], .row b3 3 [iv (x_0_Class), iv (x_0_Number), sv x_0_Suffix, iv (x_1_Class), iv (x_1_Number), sv x_1_Suffix, iv (x_2_Class), iv (x_2_Number), sv x_2_Suffix] :: .row b2 3 [v_r_Classes, v_r_Shelves, v_r_Books] :: C⟩) rfl ?_
   show T _ _ _ _ _ _;apply T.joinA (r := r) (W := Unit) (fun (j : Bool) (w : Unit) => ⟨[], [(4, bv j)], .row b3 3 [iv (x_0_Class), iv (x_0_Number), sv x_0_Suffix, iv (x_1_Class), iv (x_1_Number), sv x_1_Suffix, iv (x_2_Class), iv (x_2_Number), sv x_2_Suffix] :: .row b2 3 [v_r_Classes, v_r_Shelves, v_r_Books] :: C⟩) h
   ·intro j h;refine T.text rfl ?_;refine TO.val rfl rfl rfl (Val.move rfl) ?_;obtain ⟨c100, hc100⟩ : ∃ c : Bool, c = decide (¬ y37_2 = 0) := ⟨_, rfl⟩;refine TO.val rfl rfl rfl (Val.neq hc100 rfl rfl) ?_;refine TO.val rfl rfl rfl (Val.move rfl) ?_;cases c100 with
    | true =>
     replace hc100 := of_decide_eq_true hc100.symm;rw [if_pos hc100] at h;refine TO.off rfl rfl rfl ?_;refine TO.off rfl rfl rfl ?_;refine TO.off rfl rfl rfl ?_;refine TO.off rfl rfl rfl ?_;refine TO.off rfl rfl rfl ?_;refine TO.off rfl rfl rfl ?_;refine TO.off rfl rfl rfl ?_;refine TO.off rfl rfl rfl ?_;refine TO.off rfl rfl rfl ?_;refine TO.off rfl rfl rfl ?_;refine TO.off rfl rfl rfl ?_;refine TO.off rfl rfl rfl ?_;refine TO.off rfl rfl rfl ?_;refine TO.off rfl rfl rfl ?_;refine TO.val rfl rfl rfl (Val.pick rfl rfl rfl) ?_;refine TO.val rfl rfl rfl (Val.move rfl) ?_;refine TO.call rfl rfl rfl rfl rfl orcA .nil rfl ?_;refine TO.val rfl rfl rfl (Val.pick rfl rfl rfl) ?_;refine TO.val rfl rfl rfl (Val.assign rfl) ?_;refine TO.nil ?_;cases h;exact ⟨rfl, (), ⟨rfl, (keep_cons rfl keep_nil), (.pick (p := 0) rfl (.pick (p := 0) rfl .refl))⟩⟩
    | false =>
     replace hc100 := of_decide_eq_false hc100.symm;rw [if_neg hc100] at h;refine TO.val rfl rfl rfl (Val.move rfl) ?_;obtain ⟨c103, hc103⟩ : ∃ c : Bool, c = decide (y46_2 = 0) := ⟨_, rfl⟩;refine TO.val rfl rfl rfl (Val.eql hc103 rfl rfl) ?_;refine TO.val rfl rfl rfl (Val.move rfl) ?_;cases c103 with
     | true =>
      replace hc103 := of_decide_eq_true hc103.symm;rw [if_pos hc103] at h;refine TO.val rfl rfl rfl (Val.move rfl) ?_;obtain ⟨c106, hc106⟩ : ∃ c : Bool, c = decide (¬ y19 = (-1)) := ⟨_, rfl⟩;refine TO.val rfl rfl rfl (Val.neq hc106 rfl rfl) ?_;refine TO.val rfl rfl rfl (Val.move rfl) ?_;cases c106 with
      | true =>
       replace hc106 := of_decide_eq_true hc106.symm;rw [if_pos hc106] at h;refine TO.off rfl rfl rfl ?_;refine TO.off rfl rfl rfl ?_;refine TO.val rfl rfl rfl (Val.pick rfl rfl rfl) ?_;refine TO.val rfl rfl rfl (Val.move rfl) ?_;refine TO.off rfl rfl rfl ?_;refine TO.off rfl rfl rfl ?_;refine TO.val rfl rfl rfl (Val.pick rfl rfl rfl) ?_;refine TO.val rfl rfl rfl (Val.pick rfl rfl rfl) ?_;refine TO.val rfl rfl rfl (Val.pick rfl rfl rfl) ?_;refine TO.val rfl rfl rfl (Val.move rfl) ?_;refine TO.call rfl rfl rfl rfl rfl orcA .nil rfl ?_;refine TO.val rfl rfl rfl (Val.pick rfl rfl rfl) ?_;refine TO.val rfl rfl rfl (Val.assign rfl) ?_;refine TO.nil ?_;cases h;exact ⟨rfl, (), ⟨rfl, (keep_cons rfl keep_nil), (.pick (p := 0) rfl (.pick (p := 0) rfl .refl))⟩⟩
      | false =>
       replace hc106 := of_decide_eq_false hc106.symm;rw [if_neg hc106] at h;refine TO.val rfl rfl rfl (Val.move rfl) ?_;obtain ⟨c109, hc109⟩ : ∃ c : Bool, c = decide (¬ y37 = (-1)) := ⟨_, rfl⟩;refine TO.val rfl rfl rfl (Val.neq hc109 rfl rfl) ?_;refine TO.val rfl rfl rfl (Val.pick rfl rfl rfl) ?_;refine TO.val rfl rfl rfl (Val.move rfl) ?_;cases c109 with
       | true =>
        replace hc109 := of_decide_eq_true hc109.symm;rw [if_pos hc109] at h;refine TO.off rfl rfl rfl ?_;refine TO.off rfl rfl rfl ?_;refine TO.val rfl rfl rfl (Val.pick rfl rfl rfl) ?_;refine TO.val rfl rfl rfl (Val.pick rfl rfl rfl) ?_;refine TO.val rfl rfl rfl (Val.pick rfl rfl rfl) ?_;refine TO.val rfl rfl rfl (Val.move rfl) ?_;refine TO.call rfl rfl rfl rfl rfl orcA .nil rfl ?_;refine TO.val rfl rfl rfl (Val.pick rfl rfl rfl) ?_;refine TO.val rfl rfl rfl (Val.assign rfl) ?_;refine TO.nil ?_;cases h;exact ⟨rfl, (), ⟨rfl, (keep_cons rfl keep_nil), (.pick (p := 0) rfl (.pick (p := 0) rfl .refl))⟩⟩
       | false =>
        replace hc109 := of_decide_eq_false hc109.symm;rw [if_neg hc109] at h;refine TO.val rfl rfl rfl (Val.move rfl) ?_;obtain ⟨c113, hc113⟩ : ∃ c : Bool, c = decide (y46 = (-1)) := ⟨_, rfl⟩;refine TO.val rfl rfl rfl (Val.eql hc113 rfl rfl) ?_;refine TO.val rfl rfl rfl (Val.pick rfl rfl rfl) ?_;refine TO.val rfl rfl rfl (Val.pick rfl rfl rfl) ?_;refine TO.val rfl rfl rfl (Val.pick rfl rfl rfl) ?_;refine TO.val rfl rfl rfl (Val.move rfl) ?_;cases c113 with
        | true =>
         replace hc113 := of_decide_eq_true hc113.symm;rw [if_pos hc113] at h;refine TO.call rfl rfl rfl rfl rfl orcA .nil rfl ?_;refine TO.val rfl rfl rfl (Val.pick rfl rfl rfl) ?_;refine TO.val rfl rfl rfl (Val.assign rfl) ?_;refine TO.nil ?_;cases h;exact ⟨rfl, (), ⟨rfl, (keep_cons rfl keep_nil), (.pick (p := 0) rfl (.pick (p := 0) rfl .refl))⟩⟩
        | false =>
         replace hc113 := of_decide_eq_false hc113.symm;rw [if_neg hc113] at h;refine TO.off rfl rfl rfl ?_;refine TO.val rfl rfl rfl (Val.pick rfl rfl rfl) ?_;refine TO.val rfl rfl rfl (Val.assign rfl) ?_;refine TO.nil ?_;cases h;exact ⟨rfl, (), ⟨rfl, (keep_cons rfl keep_nil), (.pick (p := 0) rfl (.pick (p := 0) rfl .refl))⟩⟩
     | false =>
      replace hc103 := of_decide_eq_false hc103.symm;rw [if_neg hc103] at h;refine TO.off rfl rfl rfl ?_;refine TO.off rfl rfl rfl ?_;refine TO.off rfl rfl rfl ?_;refine TO.off rfl rfl rfl ?_;refine TO.off rfl rfl rfl ?_;refine TO.off rfl rfl rfl ?_;refine TO.off rfl rfl rfl ?_;refine TO.off rfl rfl rfl ?_;refine TO.off rfl rfl rfl ?_;refine TO.off rfl rfl rfl ?_;refine TO.val rfl rfl rfl (Val.pick rfl rfl rfl) ?_;refine TO.val rfl rfl rfl (Val.pick rfl rfl rfl) ?_;refine TO.val rfl rfl rfl (Val.move rfl) ?_;refine TO.off rfl rfl rfl ?_;refine TO.val rfl rfl rfl (Val.pick rfl rfl rfl) ?_;refine TO.val rfl rfl rfl (Val.assign rfl) ?_;refine TO.nil ?_;cases h;exact ⟨rfl, (), ⟨rfl, (keep_cons rfl keep_nil), (.pick (p := 0) rfl (.pick (p := 0) rfl .refl))⟩⟩
   ·rintro x4 _ h;skip;refine T.at (s' := ⟨[], [(4, bv x4)], .row b3 3 [iv (x_0_Class), iv (x_0_Number), sv x_0_Suffix, iv (x_1_Class), iv (x_1_Number), sv x_1_Suffix, iv (x_2_Class), iv (x_2_Number), sv x_2_Suffix] :: .row b2 3 [v_r_Classes, v_r_Shelves, v_r_Books] :: C⟩) rfl ?_;refine T.ret ?_;cases h;exact ⟨rfl, _, rfl, ⟨(), rfl, (.drop (.drop .refl))⟩⟩
theorem w_law_ShelfOrder (r_Classes : GS encStr) (r_Shelves : GS enc_api_SfShelf) (r_Books : GS enc_api_SfBook) (x_0_Class : Int) (x_0_Number : Int) (x_0_Suffix : Str) (x_1_Class : Int) (x_1_Number : Int) (x_1_Suffix : Str) (x_2_Class : Int) (x_2_Number : Int) (x_2_Suffix : Str) (r : Bool) (h : P_law_ShelfOrder r_Classes.l r_Shelves.l r_Books.l x_0_Class x_0_Number x_0_Suffix x_1_Class x_1_Number x_1_Suffix x_2_Class x_2_Number x_2_Suffix = some r) : Comes (EL 2) 9 [.agg [r_Classes.v, r_Shelves.v, r_Books.v], .agg [iv (x_0_Class), iv (x_0_Number), sv x_0_Suffix, iv (x_1_Class), iv (x_1_Number), sv x_1_Suffix, iv (x_2_Class), iv (x_2_Number), sv x_2_Suffix]] (bv r) :=
 TF.run (tf_law_ShelfOrder (Nat.le_refl _) (RdT.gs r_Classes) (RdT.gs r_Shelves) (RdT.gs r_Books) h) fun w => .lit
end Go.Am.YtiaolgbmbhldgaaGreatDoor
end
section
namespace Go.Am
open Go.RowKit
def Lifts (P : Program) (t : TypeId) {α : Type} (e : En α) : Prop :=
 ∀ (H : Type) (enc : TypeId × Value → H) (W : World) (base : Nat) (held : Bool) (fuel : Nat) (cs : List Value) (x : DataW H × List MemPlace),
  DataW.trod enc P W base (fun _ => true) held fuel t cs = some x → ∃ a : α, RelL (snapR W 0) (e.f a) cs
theorem Lifts.int {P : Program} {t : TypeId} (ht : P.underlying t = some (.int .i64)) : Lifts P t encI := by
 intro H enc W base held fuel cs x hx;obtain ⟨n, rfl, _, _⟩ := DataW.trod_int ht hx;exact ⟨n, .cons (.lit _) (.nil _)⟩
theorem snap_cell {W : World} {b off : Nat} {v : Value} (h : W.cell? ⟨b, off, none⟩ = some v) : ∃ c, (snapR W 0).imm b = some c ∧ c[off]? = some v := by
 unfold World.cell? at h;split at h
 ·rename_i c _ _ hb
  simp at h;exact ⟨c, by simp only [snapR, snap, Nat.zero_le, if_true]; simp only [] at hb; rw [hb], h⟩
 ·cases h
theorem list_of {α : Type} {p : Nat → α → Prop} : ∀ n : Nat, (∀ i, i < n → ∃ a, p i a) → ∃ l : List α, l.length = n ∧ ∀ i a, l[i]? = some a → p i a := by
 intro n
 induction n with
 | zero => intro _; exact ⟨[], rfl, fun i a h => by simp at h⟩
 | succ n ih =>
  intro h;obtain ⟨l, h1, h2⟩ := ih fun i hi => h i (by omega)
  obtain ⟨a, ha⟩ := h n (by omega);refine ⟨l ++ [a], by simp [h1], fun i b hb => ?_⟩
  by_cases hi : i < l.length
  ·rw [List.getElem?_append_left hi] at hb; exact h2 i b hb
  ·rw [List.getElem?_append_right (by omega)] at hb
   have : i - l.length = 0 := by
    have := (List.getElem?_eq_some_iff.1 hb).1;simp at this; omega
   rw [this] at hb;simp at hb;subst hb
   have : i = n := by omega
   rw [this]; exact ha
theorem Lifts.slice {P : Program} {t e : TypeId} {α : Type} {en : En α} (ht : P.underlying t = some (.slice e)) (hu : P.cellsOf e = en.u) (h0 : 0 < en.u) (h : Lifts P e en) : Lifts P t (encSl en) := by
 intro H enc W base held fuel cs x hx
 rcases DataW.trod_slice ht hx with ⟨rfl, _⟩ | ⟨a, len, cap, elems, rest, n, _, rfl, _, hb, hl, _, hlen, hel, hsp, _⟩
 ·exact ⟨⟨nilS, [], .inl ⟨rfl, rfl, rfl⟩⟩, .cons (.lit _) (.nil _)⟩
 ·rw [hu] at hel hsp;obtain ⟨hrl, hr⟩ := hsp rfl
  by_cases hc : cap = 0
  ·subst hc
   have : len = 0 := by omega
   subst this;exact ⟨⟨.tree en.u 0 [], [], .inr ⟨rfl, by simp⟩⟩, .cons .tree0 (.nil _)⟩
  ·have hcell : ∀ i, i < len → ∃ (a' : α) (ci : List Value), W.cells? base (a.add (i * en.u)) en.u = some ci ∧ RelL (snapR W 0) (en.f a') ci := by
    intro i hi
    have he := hel i hi;rw [List.getElem?_eq_getElem (by omega)] at he;obtain ⟨ci, h1, h2⟩ := Option.bind_eq_some_iff.1 he;obtain ⟨a', h3⟩ := h _ _ _ _ _ _ _ _ h2;exact ⟨a', ci, h1, h3⟩
   have hspot : a.spot = none := by
    have : ∃ ci, W.cells? base (a.add (0 * en.u)) en.u = some ci := by
     by_cases hl0 : 0 < len
     ·obtain ⟨_, ci, h1, _⟩ := hcell 0 hl0;exact ⟨ci, h1⟩
     ·have hz : len = 0 := by omega
      have he := hr 0 (by omega);rw [List.getElem?_eq_getElem (by omega)] at he;obtain ⟨ci, h1, _⟩ := Option.bind_eq_some_iff.1 he;exact ⟨ci, by simpa [hz] using h1⟩
    obtain ⟨ci, h1⟩ := this;obtain ⟨_, h2, h3⟩ := World.cells?_some h1
    have h4 := h3 0 h0;rw [List.getElem?_eq_getElem (by omega)] at h4
    have := World.cell?_spot h4
    simpa [Addr.add] using this
   obtain ⟨b, off, sp⟩ := a;simp only at hspot;subst hspot;obtain ⟨l, hl1, hl2⟩ := list_of (p := fun i a' => ∃ ci : List Value, W.cells? base ((⟨b, off, none⟩ : Addr).add (i * en.u)) en.u = some ci ∧ RelL (snapR W 0) (en.f a') ci) len hcell
   have hfl : (l.flatMap en.f).length = len * en.u := by rw [flat_len, hl1]
   have each : ∀ j, j < len * en.u → ∃ v y c, (l.flatMap en.f)[j]? = some v ∧ (snapR W 0).imm b = some c ∧ c[off + j]? = some y ∧ RelV (snapR W 0) v y := by
    intro j hj
    have hi : j / en.u < l.length := by rw [hl1]; exact Nat.div_lt_of_lt_mul (by rw [Nat.mul_comm]; exact hj)
    have hk : j % en.u < en.u := Nat.mod_lt _ h0
    have hd : j / en.u * en.u + j % en.u = j := by rw [Nat.mul_comm]; exact Nat.div_add_mod j en.u
    obtain ⟨ci, h1, h2⟩ := hl2 _ _ (List.getElem?_eq_getElem hi);obtain ⟨_, h3, h4⟩ := World.cells?_some h1
    have h5 := h4 _ hk;rw [List.getElem?_eq_getElem (by omega)] at h5
    have h6 : ((⟨b, off, none⟩ : Addr).add (j / en.u * en.u)).add (j % en.u) = ⟨b, off + j, none⟩ := by
     simp only [addr_add]
     congr 1
     omega
    rw [h6] at h5;obtain ⟨c, h7, h8⟩ := snap_cell h5
    have hlen' := en.len l[j / en.u]
    have hv := List.getElem?_eq_getElem (l := en.f l[j / en.u]) (i := j % en.u) (by omega);refine ⟨_, _, c, ?_, h7, h8, h2.2 _ _ _ hv (List.getElem?_eq_getElem _)⟩
    have := flat_get (en := en) (List.getElem?_eq_getElem hi) hk;rw [hd] at this;rw [this, hv]
   refine ⟨⟨.tree en.u l.length (l.flatMap en.f), l, .inr ⟨rfl, by rw [hfl, hl1]⟩⟩, .cons ?_ (.nil _)⟩
   show RelV _ (.tree en.u l.length (l.flatMap en.f)) _;rw [hl1]
   by_cases hz : len * en.u = 0
   ·refine .tree (c := #[]) hfl hl (.inl (List.eq_nil_of_length_eq_zero (by omega))) fun i v x hv hx => by simp at hx
   ·obtain ⟨_, _, c, _, hc1, _, _⟩ := each (len * en.u - 1) (by omega);refine .tree (c := c) hfl hl (.inr ⟨hc1, ?_⟩) fun j v y hv hy => ?_
    ·obtain ⟨_, _, c', _, hc2, hc3, _⟩ := each (len * en.u - 1) (by omega);rw [hc1] at hc2;cases hc2
     have := (Array.getElem?_eq_some_iff.1 hc3).1;omega
    ·have hj := (List.getElem?_eq_some_iff.1 hv).1;obtain ⟨v', y', c', e1, e2, e3, e4⟩ := each j (by omega);rw [hc1] at e2;cases e2;rw [hv] at e1;rw [hy] at e3;cases e1;cases e3;exact e4
theorem RelL.glue {r : Ren} {a b : List AV} {cs : List Value} {n : Nat} (h1 : RelL r a (cs.take n)) (h2 : RelL r b (cs.drop n)) : RelL r (a ++ b) cs := by
 have := h1.append h2
 rwa [List.take_append_drop] at this
end Go.Am
end
section
namespace Go.Am
open Go.RowKit
def enPair {α β : Type} (a : En α) (b : En β) : En (α × β) := ⟨a.u + b.u, fun p => a.f p.1 ++ b.f p.2, fun p => by simp [a.len, b.len]⟩
theorem Lifts.map {P : Program} {t : TypeId} {α β : Type} {a : En α} {b : En β} (h : Lifts P t a) (hf : ∀ x, ∃ y, b.f y = a.f x) : Lifts P t b := by
 intro H enc W base held fuel cs x hx;obtain ⟨v, hv⟩ := h _ _ _ _ _ _ _ _ hx;obtain ⟨y, hy⟩ := hf v;exact ⟨y, by rw [hy]; exact hv⟩
theorem Lifts.arg {P : Program} {t : TypeId} {fs : Array Field} {α : Type} {en : En α} (hl : Lifts P t en) (ht : P.underlying t = some (.struct fs)) {W : World} {r : Reach} {b0 : Nat} {v : Value} (hval : Value.okWide P W r b0 t v)
  {H : Type} {enc : TypeId × Value → H} {base : Nat} {held : Bool} {d : DataW H} {ps : List MemPlace} (h : DataW.Trod enc P W base (fun _ => true) held t v d ps) : ∃ a, RelV (snapR W 0) (.agg (en.f a)) v := by
 simp only [Value.okWide, ht] at hval;obtain ⟨cs, rfl, _, _⟩ := hval;obtain ⟨fuel, hf⟩ := h;obtain ⟨a, ha⟩ := hl _ _ _ _ _ _ _ _ hf;exact ⟨a, by simpa [Value.cells] using RelV.agg ha.1 ha.2⟩
end Go.Am
end
section
namespace Go.Am
open Go.RowKit
set_option linter.unusedVariables false
def encU16 : En UInt16 := ⟨1, fun b => [ivk .u16 (b.toNat : Int)], fun _ => rfl⟩
theorem Lifts.u8 {P : Program} {t : TypeId} (ht : P.underlying t = some (.int .u8)) : Lifts P t encU8 := by
 intro H enc W base held fuel cs x hx;obtain ⟨n, rfl, _, hw⟩ := DataW.trod_int ht hx
 have hw : 0 ≤ n ∧ n ≤ 255 := by
  have := Bool.and_eq_true_iff.1 hw;exact ⟨of_decide_eq_true this.1, of_decide_eq_true this.2⟩
 have e : ((UInt8.ofNat n.toNat).toNat : Int) = n := by rw [UInt8.toNat_ofNat']; omega
 refine ⟨UInt8.ofNat n.toNat, .cons ?_ (.nil _)⟩;rw [e];exact .lit _
theorem Lifts.u16 {P : Program} {t : TypeId} (ht : P.underlying t = some (.int .u16)) : Lifts P t encU16 := by
 intro H enc W base held fuel cs x hx;obtain ⟨n, rfl, _, hw⟩ := DataW.trod_int ht hx
 have hw : 0 ≤ n ∧ n ≤ 65535 := by
  have := Bool.and_eq_true_iff.1 hw;exact ⟨of_decide_eq_true this.1, of_decide_eq_true this.2⟩
 have e : ((UInt16.ofNat n.toNat).toNat : Int) = n := by rw [UInt16.toNat_ofNat']; omega
 refine ⟨UInt16.ofNat n.toNat, .cons ?_ (.nil _)⟩;rw [e];exact .lit _
theorem Lifts.argA {P : Program} {t e : TypeId} {n : Nat} {α : Type} {en : En α} (hl : Lifts P t en) (ht : P.underlying t = some (.array n e)) {W : World} {r : Reach} {b0 : Nat} {v : Value} (hval : Value.okWide P W r b0 t v)
  {H : Type} {enc : TypeId × Value → H} {base : Nat} {held : Bool} {d : DataW H} {ps : List MemPlace} (h : DataW.Trod enc P W base (fun _ => true) held t v d ps) : ∃ a, RelV (snapR W 0) (.agg (en.f a)) v := by
 simp only [Value.okWide, ht] at hval;obtain ⟨cs, rfl, _, _⟩ := hval;obtain ⟨fuel, hf⟩ := h;obtain ⟨a, ha⟩ := hl _ _ _ _ _ _ _ _ hf;exact ⟨a, by simpa [Value.cells] using RelV.agg ha.1 ha.2⟩
end Go.Am
end
section
namespace Go.Am
open Go.RowKit
set_option linter.unusedVariables false
theorem Lifts.str {P : Program} {t : TypeId} (ht : P.underlying t = some .string) : Lifts P t encStr := by
 intro H enc W base held fuel cs x hx;obtain ⟨s, rfl, _, _⟩ := DataW.trod_string ht hx;refine ⟨s.data.toList, .cons ?_ (.nil _)⟩;exact .lit _
inductive Flds (P : Program) : List Field → Nat → {α : Type} → En α → Prop
 | one {f : Field} {off : Nat} {α : Type} {a : En α} (ho : f.offset = off) (hc : P.cellsOf f.type = a.u) (l : Lifts P f.type a) : Flds P [f] off a
 | cons {f : Field} {r : List Field} {off : Nat} {α β : Type} {a : En α} {b : En β} (ho : f.offset = off) (hc : P.cellsOf f.type = a.u) (l : Lifts P f.type a) (h : Flds P r (off + a.u) b) : Flds P (f :: r) off (enPair a b)
theorem Flds.run {P : Program} {H : Type} {enc : TypeId × Value → H} {W : World} {base : Nat} {held : Bool} {n : Nat} {cs : List Value} {fs : List Field} {off : Nat} {α : Type} {e : En α} (hf : Flds P fs off e)
  (h : ∀ (i : Nat) (f : Field), fs[i]? = some f → ∃ x, DataW.trod enc P W base (fun _ => true) held n f.type ((cs.drop f.offset).take (P.cellsOf f.type)) = some x) : ∃ x : α, RelL (snapR W 0) (e.f x) ((cs.drop off).take e.u) := by
 induction hf with
 | one ho hc l =>
  obtain ⟨x, hx⟩ := h 0 _ rfl;rw [ho, hc] at hx;exact l _ _ _ _ _ _ _ _ hx
 | @cons f r off α β a b ho hc l _ ih =>
  obtain ⟨x, hx⟩ := h 0 _ rfl;rw [ho, hc] at hx;obtain ⟨x0, r0⟩ := l _ _ _ _ _ _ _ _ hx;obtain ⟨x1, r1⟩ := ih fun i f hf => h (i + 1) f hf
  refine ⟨(x0, x1), ?_⟩
  show RelL _ _ ((cs.drop off).take (a.u + b.u));rw [List.take_add, List.drop_drop]
  have e1 := r0;exact RelL.append r0 r1
theorem Lifts.struct {P : Program} {t : TypeId} {fs : Array Field} {α : Type} {e : En α} (ht : P.underlying t = some (.struct fs)) (ct : P.cellsOf t = e.u) (hf : Flds P fs.toList 0 e) : Lifts P t e := by
 intro H enc W base held fuel cs x hx;obtain ⟨xs, n, _, _, hl, hn, h⟩ := DataW.trod_struct ht hx;obtain ⟨v, hv⟩ := hf.run (H := H) (enc := enc) (W := W) (base := base) (held := held) (n := n) (cs := cs) fun i f hi => by
  have hi' : fs[i]? = some f := by rw [← Array.getElem?_toList]; exact hi
  have hlt : i < xs.length := by rw [hn]; exact (Array.getElem?_eq_some_iff.1 hi').1
  exact ⟨xs[i], by rw [h i f hi', List.getElem?_eq_getElem hlt]⟩
 refine ⟨v, ?_⟩
 rwa [List.drop_zero, List.take_of_length_le (by omega)] at hv
theorem Lifts.arr3 {P : Program} {t e : TypeId} {α : Type} {a : En α} (ht : P.underlying t = some (.array 3 e)) (ce : P.cellsOf e = a.u) (ct : P.cellsOf t = a.u + (a.u + a.u)) (l : Lifts P e a) : Lifts P t (enPair a (enPair a a)) := by
 intro H enc W base held fuel cs x hx;obtain ⟨xs, n, _, _, hl, hn, h⟩ := DataW.trod_array ht hx
 have h0 := h 0 (by omega)
 have h1 := h 1 (by omega)
 have h2 := h 2 (by omega);rw [List.getElem?_eq_getElem (by omega), ce, Nat.zero_mul, List.drop_zero] at h0;rw [List.getElem?_eq_getElem (by omega), ce, Nat.one_mul] at h1;rw [List.getElem?_eq_getElem (by omega), ce, show 2 * a.u = a.u + a.u by omega, ← List.drop_drop, List.take_of_length_le (by simp; omega)] at h2;obtain ⟨x0, r0⟩ := l _ _ _ _ _ _ _ _ h0;obtain ⟨x1, r1⟩ := l _ _ _ _ _ _ _ _ h1;obtain ⟨x2, r2⟩ := l _ _ _ _ _ _ _ _ h2;exact ⟨(x0, x1, x2), .glue r0 (.glue r1 r2)⟩
end Go.Am
end
section
namespace Go.Am.YtiaolgbmbhldgaaGreatDoor
open Go.Am Go.RowKit Go.Proofs
theorem li_9 : Lifts Tryz.prog 9 encStr := .str Tryz.underlying9
theorem li_22 : Lifts Tryz.prog 22 (encSl encStr) := .slice Tryz.underlying22 (by kernel_rfl) (by decide) li_9
theorem li_3 : Lifts Tryz.prog 3 encI := .int Tryz.underlying3
theorem li_86 : Lifts Tryz.prog 86 (enPair encI (enPair encI (enPair encI encI))) := .struct Tryz.underlying86 (by kernel_rfl) (.cons rfl (by kernel_rfl) li_3 (.cons rfl (by kernel_rfl) li_3 (.cons rfl (by kernel_rfl) li_3 (.one rfl (by kernel_rfl) li_3))))
theorem lm_86 : Lifts Tryz.prog 86 enc_api_SfShelf := (li_86).map fun x => ⟨⟨x.1, x.2.1, x.2.2.1, x.2.2.2⟩, rfl⟩
theorem li_23 : Lifts Tryz.prog 23 (encSl enc_api_SfShelf) := .slice Tryz.underlying23 (by kernel_rfl) (by decide) lm_86
theorem li_28 : Lifts Tryz.prog 28 (enPair encI (enPair encI encStr)) := .struct Tryz.underlying28 (by kernel_rfl) (.cons rfl (by kernel_rfl) li_3 (.cons rfl (by kernel_rfl) li_3 (.one rfl (by kernel_rfl) li_9)))
theorem li_42 : Lifts Tryz.prog 42 (enPair (enPair encI (enPair encI encStr)) (enPair encI (enPair encI (enPair encI encI)))) := .struct Tryz.underlying42 (by kernel_rfl) (.cons rfl (by kernel_rfl) li_28 (.cons rfl (by kernel_rfl) li_3 (.cons rfl (by kernel_rfl) li_3 (.cons rfl (by kernel_rfl) li_3 (.one rfl (by kernel_rfl) li_3)))))
theorem lm_42 : Lifts Tryz.prog 42 enc_api_SfBook := (li_42).map fun x => ⟨⟨x.1.1, x.1.2.1, x.1.2.2, x.2.1, x.2.2.1, x.2.2.2.1, x.2.2.2.2⟩, rfl⟩
theorem li_24 : Lifts Tryz.prog 24 (encSl enc_api_SfBook) := .slice Tryz.underlying24 (by kernel_rfl) (by decide) lm_42
theorem li_26 : Lifts Tryz.prog 26 (enPair (encSl encStr) (enPair (encSl enc_api_SfShelf) (encSl enc_api_SfBook))) := .struct Tryz.underlying26 (by kernel_rfl) (.cons rfl (by kernel_rfl) li_22 (.cons rfl (by kernel_rfl) li_23 (.one rfl (by kernel_rfl) li_24)))
theorem li_63 : Lifts Tryz.prog 63 (enPair (enPair encI (enPair encI encStr)) (enPair (enPair encI (enPair encI encStr)) (enPair encI (enPair encI encStr)))) := .arr3 Tryz.underlying63 (by kernel_rfl) (by kernel_rfl) li_28
end Go.Am.YtiaolgbmbhldgaaGreatDoor
end
section
namespace Go.Am
set_option linter.unusedVariables false
theorem i64_small {x : Int} (h : -4000000000000000000 ≤ x ∧ x ≤ 4000000000000000000) : I64 x := by unfold I64; omega
section
variable {σ ε J A β : Type}
def CountQ (idx : σ → Int) (I : Nat → σ → Prop) (k : Nat) (Q : ε → Prop) : Stp σ ε → Prop
 | .ag s => idx s = k + 1 ∧ I (k + 1) s
 | .dn e => Q e
def FinQ (Q : ε → Prop) : Stp σ ε → Prop
 | .ag _ => False
 | .dn e => Q e
theorem Ok.count (idx : σ → Int) (n : Nat) (I : Nat → σ → Prop) {body : σ → Option (Stp σ ε)} {s0 : σ} {Q : ε → Prop} (h0 : idx s0 = 0) (hI : I 0 s0)
  (step : ∀ k s, k < n → idx s = k → I k s → Ok (body s) (CountQ idx I k Q)) (fin : ∀ s, idx s = n → I n s → Ok (body s) (FinQ Q)) : Ok (Am.iter body s0) Q := by
 refine Ok.iter (fun s => ∃ k : Nat, k ≤ n ∧ idx s = k ∧ I k s) (fun s => n - (idx s).toNat) ⟨0, Nat.zero_le _, h0, hI⟩ ?_;rintro s ⟨k, hk, hx, hi⟩
 by_cases hlt : k < n
 ·refine (step k s hlt hx hi).mono fun x hq => ?_
  cases x with
  | ag s' =>
   have h1 : idx s' = k + 1 := hq.1;exact ⟨⟨k + 1, by omega, by rw [h1]; rfl, hq.2⟩, by show n - (idx s').toNat < n - (idx s).toNat; rw [h1, hx]; omega⟩
  | dn e => exact hq
 ·have : k = n := by omega
  subst this;refine (fin s hx hi).mono fun x hq => ?_
  cases x with
  | ag s' => exact hq.elim
  | dn e => exact hq
end
end Go.Am
end
section
namespace Go.Am
set_option linter.unusedVariables false
set_option linter.unusedSimpArgs false
open Classical in
noncomputable def scanX {A : Type} (f : Nat → Option A) (n : Nat) : Ex Unit A := match (List.range n).findSome? f with | some a => .rt a | none => .nx ()
theorem find_range {A : Type} {f : Nat → Option A} {a : A} : ∀ {n k : Nat}, k < n → (∀ j, j < k → f j = none) → f k = some a → (List.range n).findSome? f = some a := by
 intro n
 induction n with
 | zero => intro k hk; omega
 | succ n ih =>
  intro k hk h0 h1;rw [List.range_succ, List.findSome?_append]
  by_cases hkn : k = n
  ·subst hkn
   have : (List.range k).findSome? f = none := by
    rw [List.findSome?_eq_none_iff];intro x hx;exact h0 x (List.mem_range.1 hx)
   rw [this];simp [h1]
  ·rw [ih (by omega) h0 h1]; rfl
theorem find_none {A : Type} {f : Nat → Option A} {n : Nat} (h : ∀ j, j < n → f j = none) : (List.range n).findSome? f = none := by
 rw [List.findSome?_eq_none_iff];intro x hx;exact h x (List.mem_range.1 hx)
theorem of_find_none {A : Type} {f : Nat → Option A} {n : Nat} (h : (List.range n).findSome? f = none) : ∀ j, j < n → f j = none := by
 rw [List.findSome?_eq_none_iff] at h;exact fun j hj => h j (List.mem_range.2 hj)
def scanS {A : Type} {σ : Type} (s : σ) : Option A → Stp σ (Ex Unit A)
 | none => .ag s
 | some a => .dn (.rt a)
theorem iter_scan {A σ : Type} (idx : Nat → σ) (f : Nat → Option A) (n : Nat) {body : σ → Option (Stp σ (Ex Unit A))} (inj : ∀ k, idx k = idx k)
  (step : ∀ k : Nat, k < n → (∀ j, j < k → f j = none) → body (idx k) = some (scanS (idx (k + 1)) (f k)))
  (fin : (∀ j, j < n → f j = none) → body (idx n) = some (.dn (.nx ()))) : iter body (idx 0) = some (scanX f n) := by
 have key : ∀ m k : Nat, m = n - k → k ≤ n → (∀ j, j < k → f j = none) → iter body (idx k) = some (scanX f n) := by
  intro m
  induction m with
  | zero =>
   intro k hm hk h0
   have : k = n := by omega
   subst this;refine iter_eq.2 (.inr ?_);rw [fin h0];simp [scanX, find_none h0]
  | succ m ih =>
   intro k hm hk h0;cases hf : f k with
   | none =>
    refine iter_eq.2 (.inl ⟨idx (k + 1), ?_, ih (k + 1) (by omega) (by omega) fun j hj => ?_⟩)
    ·rw [step k (by omega) h0, hf]; rfl
    ·by_cases e : j = k
     ·rw [e]; exact hf
     ·exact h0 j (by omega)
   | some a =>
    refine iter_eq.2 (.inr ?_);rw [step k (by omega) h0, hf];simp [scanS, scanX, find_range (show k < n by omega) h0 hf]
 exact key n 0 (by omega) (by omega) (fun j hj => by omega)
theorem iter_scanI {A : Type} (f : Nat → Option A) (n : Nat) {body : Int → Option (Stp Int (Ex Unit A))}
  (step : ∀ k : Nat, k < n → (∀ j, j < k → f j = none) → body (k : Int) = some (scanS ((k : Int) + 1) (f k)))
  (fin : (∀ j, j < n → f j = none) → body (n : Int) = some (.dn (.nx ()))) : iter body 0 = some (scanX f n) :=
 iter_scan (fun k => (k : Int)) f n (fun _ => rfl) (fun k hk h => step k hk h) fin
theorem seqx_scan {A : Type} {f : Nat → Option A} {n : Nat} {k : Unit → Option A} : seqx (some (scanX f n)) k = match (List.range n).findSome? f with | some a => some a | none => k () := by
 unfold scanX;cases (List.range n).findSome? f <;> rfl
theorem el_at {α β : Type} {l : List α} {k : Nat} {a : α} {g : α → Option β} (h : l[k]? = some a) : el l (k : Int) g = g a := by
 unfold el;simp [h]
theorem get!_mk (l : Str) (i : Nat) : (⟨l.toArray⟩ : ByteArray).get! i = l.getD i 0 := by
 show l.toArray[i]! = _;rw [getElem!_def];simp [List.getD];cases l[i]? <;> rfl
theorem rune_ascii {l : Str} {p : Nat} {b : UInt8} (hb : l[p]? = some b) (h : b.toNat < 128) : runeAt l p = b.toNat ∧ runeLen l p = 1 := by
 have e : (⟨l.toArray⟩ : ByteArray).get! (p + 0) = b := by rw [get!_mk]; simp [List.getD, hb]
 unfold runeAt runeLen Utf8.decode;simp only [e];rw [if_pos h];exact ⟨rfl, rfl⟩
theorem rune_high {l : Str} {p : Nat} {b : UInt8} (hb : l[p]? = some b) (h : 128 ≤ b.toNat) : 128 ≤ runeAt l p := by
 have e : (⟨l.toArray⟩ : ByteArray).get! (p + 0) = b := by rw [get!_mk]; simp [List.getD, hb]
 unfold runeAt Utf8.decode;simp only [e, Utf8.runeError];rw [if_neg (by omega)];split
 ·split
  ·rename_i h1 h2; simp only [ge_iff_le] at h2; simp only; omega
  ·simp only; omega
 ·split
  ·split
   ·rename_i h1 h2; simp only [ge_iff_le, Bool.and_eq_true, decide_eq_true_eq] at h2; simp only; omega
   ·simp only; omega
  ·split
   ·split
    ·rename_i h1 h2; simp only [ge_iff_le, Bool.and_eq_true, decide_eq_true_eq] at h2; simp only; omega
    ·simp only; omega
   ·simp only; omega
def lowerN (x : Int) : Prop := 97 ≤ x ∧ x ≤ 122
def nameN (i : Nat) (x : Int) : Prop := lowerN x ∨ (0 < i ∧ ((48 ≤ x ∧ x ≤ 57) ∨ x = 46))
def isName (s : Str) : Prop := 0 < s.length ∧ s.length ≤ 16 ∧ ∀ i, i < s.length → nameN i (byteAt s i)
def isLow (s : Str) : Prop := ∀ i, i < s.length → lowerN (byteAt s i)
theorem byteAt_of {l : Str} {k : Nat} {b : UInt8} (h : l[k]? = some b) : byteAt l (k : Int) = b.toNat := by
 simp [byteAt, List.getD, h]
theorem get_some {α : Type} {l : List α} {k : Nat} (h : k < l.length) : ∃ a, l[k]? = some a := ⟨l[k], List.getElem?_eq_getElem h⟩
theorem byteAt_lt (l : Str) (k : Int) : 0 ≤ byteAt l k ∧ byteAt l k < 256 := by
 have := (l.getD k.toNat 0).toNat_lt;unfold byteAt;omega
theorem rune_low {l : Str} {p : Nat} (hp : p < l.length) : (runeAt l p = byteAt l p ∧ runeLen l p = 1) ∨ (128 ≤ runeAt l p ∧ 128 ≤ byteAt l p) := by
 obtain ⟨b, hb⟩ := get_some hp;rw [byteAt_of hb]
 by_cases h : b.toNat < 128
 ·exact .inl (rune_ascii hb h)
 ·exact .inr ⟨rune_high hb (by omega), by omega⟩
open Classical in
theorem find_if {A : Type} {P : Nat → Prop} {a : A} {n : Nat} : (List.range n).findSome? (fun i => if P i then none else some a) = if ∀ j, j < n → P j then none else some a := by
 by_cases h : ∀ j, j < n → P j
 ·rw [if_pos h, find_none fun j hj => if_pos (h j hj)]
 ·rw [if_neg h];cases hf : (List.range n).findSome? (fun i => if P i then none else some a) with
  | none =>
   refine absurd (fun i hi => ?_) h
   have := of_find_none hf i hi
   by_cases hl : P i
   ·exact hl
   ·rw [if_neg hl] at this; cases this
  | some b =>
   obtain ⟨x, hx, hx'⟩ := List.exists_of_findSome?_eq_some hf;split at hx'
   ·cases hx'
   ·exact hx'.symm
open Classical in
theorem r9_letters_eq (s : Str) (hs : s.length ≤ 1000) : P_r9_letters s = some (decide (isLow s)) := by
 unfold P_r9_letters;rw [iter_scanI (fun i => if lowerN (byteAt s i) then none else some false) s.length, seqx_scan, find_if]
 ·by_cases h : ∀ j, j < s.length → lowerN (byteAt s j)
  ·rw [if_pos h, decide_eq_true (show isLow s from h)]
  ·rw [if_neg h, decide_eq_false (show ¬ isLow s from h)]
 ·intro k hk h0;unfold P_r9_letters_L1;rw [if_pos (by omega), chk_pos (by omega), chk_pos (by omega), chk_pos (i64_small (by omega))];unfold lowerN;generalize byteAt s (k : Int) = x
  by_cases h1 : x < 97
  ·rw [if_pos h1, if_neg (by omega)]; rfl
  ·rw [if_neg h1]
   by_cases h2 : x > 122
   ·rw [if_neg (by omega), decide_eq_true h2]; rfl
   ·rw [if_pos (by omega), decide_eq_false h2]; rfl
 ·intro h0;unfold P_r9_letters_L1;rw [if_neg (by omega)]
theorem andx_some' {α β : Type} {a : α} {k : α → Option β} : andx (some a) k = k a := rfl
open Classical in
theorem r1_Name_eq (s : Str) : P_r1_Name s = some (decide (isName s)) := by
  unfold P_r1_Name
  by_cases h0 : s.length = 0
  · have : ¬ isName s := fun h => by have := h.1; omega
    rw [if_pos (by omega)]; simp [seqx, andx, this]
  by_cases h1 : 16 < s.length
  · have : ¬ isName s := fun h => by have := h.2.1; omega
    rw [if_neg (by omega), decide_eq_true (by omega)]; simp [seqx, andx, this]
  rw [if_neg (by omega), decide_eq_false (by omega)]
  show seqx (iter _ _) _ = _
  rw [iter_scanI (fun i => if nameN i (byteAt s i) then none else some false) s.length, seqx_scan, find_if]
  · by_cases h : ∀ j, j < s.length → nameN j (byteAt s j)
    · rw [if_pos h, decide_eq_true ⟨by omega, by omega, h⟩]
    · rw [if_neg h, decide_eq_false fun k => h k.2.2]
  · intro k hk hj
    unfold P_r1_Name_L1
    rw [if_pos (by omega)]
    simp only [chk_pos (show 0 ≤ (k : Int) ∧ (k : Int) < (s.length : Int) by omega), chk_pos (show I64 ((k : Int) + 1) from i64_small (by omega))]
    unfold nameN lowerN
    generalize byteAt s (k : Int) = x
    by_cases a1 : x ≥ 97 <;> by_cases a2 : x ≤ 122 <;> by_cases a3 : k = 0 <;> by_cases a4 : x ≥ 48 <;> by_cases a5 : x ≤ 57 <;> by_cases a6 : x = 46 <;>
      first
      | (exfalso; omega)
      | (rw [if_pos (show (97 ≤ x ∧ x ≤ 122) ∨ (0 < k ∧ ((48 ≤ x ∧ x ≤ 57) ∨ x = 46)) by omega)]; simp [andx, seqx, scanS, a1, a2, a3, a4, a5, a6]; done)
      | (rw [if_neg (show ¬ ((97 ≤ x ∧ x ≤ 122) ∨ (0 < k ∧ ((48 ≤ x ∧ x ≤ 57) ∨ x = 46))) by omega)]; simp [andx, seqx, scanS, a1, a2, a3, a4, a5, a6]; done)
  · intro hj
    unfold P_r1_Name_L1
    rw [if_neg (by omega)]
open Classical in
theorem q_Name_eq (s : Str) : P_q_Name s = some (decide (isName s)) := by
  unfold P_q_Name
  rw [iter_scan (fun k : Nat => k) (fun i => if nameN i (byteAt s i) then none else some false) s.length (fun _ => rfl), seqx_scan, find_if]
  · by_cases h : ∀ j, j < s.length → nameN j (byteAt s j)
    · rw [if_pos h]
      show andx _ _ = _
      by_cases h0 : s = []
      · subst h0
        have : ¬ isName [] := fun h => absurd h.1 (by simp)
        simp [andx, this]
      · have hpos : 0 < s.length := List.length_pos_iff.2 h0
        rw [if_pos h0]
        show some _ = some _
        congr 1
        by_cases h1 : s.length ≤ 16
        · rw [decide_eq_true (by omega), decide_eq_true ⟨hpos, h1, h⟩]
        · rw [decide_eq_false (by omega), decide_eq_false fun k => h1 k.2.1]
    · rw [if_neg h, decide_eq_false (show ¬ isName s from fun k => h k.2.2)]
  · intro k hk hj
    unfold P_q_Name_L1
    rw [if_pos hk]
    show _ = some (scanS (k + 1) _)
    have hb := byteAt_lt s (k : Int)
    unfold nameN lowerN
    rcases rune_low hk with ⟨h1, h2⟩ | ⟨h1, h2⟩
    · rw [h1, h2]
      generalize byteAt s (k : Int) = x
      by_cases a1 : x ≥ 97 <;> by_cases a2 : x ≤ 122 <;> by_cases a3 : 0 < k <;> by_cases a4 : x ≥ 48 <;> by_cases a5 : x ≤ 57 <;> by_cases a6 : x = 46 <;>
        first
        | (exfalso; omega)
        | (rw [if_pos (show (97 ≤ x ∧ x ≤ 122) ∨ (0 < k ∧ ((48 ≤ x ∧ x ≤ 57) ∨ x = 46)) by omega)]; simp [andx, scanS, a1, a2, a3, a4, a5, a6]; done)
        | (rw [if_neg (show ¬ ((97 ≤ x ∧ x ≤ 122) ∨ (0 < k ∧ ((48 ≤ x ∧ x ≤ 57) ∨ x = 46))) by omega)]; simp [andx, scanS, a1, a2, a3, a4, a5, a6]; done)
    · generalize byteAt s (k : Int) = x at *
      generalize runeAt s k = y at *
      rw [if_neg (show ¬ ((97 ≤ x ∧ x ≤ 122) ∨ (0 < k ∧ ((48 ≤ x ∧ x ≤ 57) ∨ x = 46))) by omega)]
      have a1 : y ≥ 97 := by omega
      have a2 : ¬ y ≤ 122 := by omega
      have a4 : y ≥ 48 := by omega
      have a5 : ¬ y ≤ 57 := by omega
      have a6 : ¬ y = 46 := by omega
      by_cases a3 : 0 < k <;> simp [andx, scanS, a1, a2, a3, a4, a5, a6]
  · intro hj
    unfold P_q_Name_L1
    rw [if_neg (by omega)]
end Go.Am
end
section
namespace Go.Am
set_option linter.unusedVariables false
set_option linter.unusedSimpArgs false
open Classical in
theorem r9_in_eq (n a b : Int) : P_r9_in n a b = some (decide (a ≤ n ∧ n ≤ b)) := by
 unfold P_r9_in
 by_cases h : a ≤ n
 ·rw [if_pos h]
  by_cases h2 : n ≤ b
  ·simp [andx, h, h2]
  ·simp [andx, h2]
 ·rw [if_neg h]; simp [andx, h]
open Classical in
theorem find_idx {P : Nat → Prop} {n : Nat} : ((∀ j, j < n → P j) ∧ (List.range n).findSome? (fun i => if P i then none else some (i : Int)) = none) ∨ ((¬ ∀ j, j < n → P j) ∧ ∃ k : Int, 0 ≤ k ∧ (List.range n).findSome? (fun i => if P i then none else some (i : Int)) = some k) := by
 by_cases h : ∀ j, j < n → P j
 ·exact .inl ⟨h, find_none fun j hj => if_pos (h j hj)⟩
 ·refine .inr ⟨h, ?_⟩;cases hf : (List.range n).findSome? (fun i => if P i then none else some (i : Int)) with
  | none =>
   refine absurd (fun i hi => ?_) h
   have := of_find_none hf i hi
   by_cases hl : P i
   ·exact hl
   ·rw [if_neg hl] at this; cases this
  | some k =>
   obtain ⟨x, hx, hx'⟩ := List.exists_of_findSome?_eq_some hf;split at hx'
   ·cases hx'
   ·cases hx'; exact ⟨_, by omega, rfl⟩
def btw (lo hi x : Int) : Prop := lo ≤ x ∧ x ≤ hi
def btwAt (lo hi : Int) (l : List Int) (i : Nat) : Prop := ∀ x, l[i]? = some x → btw lo hi x
open Classical in
theorem s9_out_eq (lo hi : Int) (l : List Int) (hl : l.length ≤ 1000) : P_s9_out lo hi l = some (decide (¬ ∀ j, j < l.length → btwAt lo hi l j)) := by
 unfold P_s9_out;rw [iter_scanI (fun i => if btwAt lo hi l i then none else some (i : Int)) l.length, seqx_scan]
 ·rcases find_idx (P := btwAt lo hi l) (n := l.length) with ⟨h, e⟩ | ⟨h, k, hk, e⟩
  ·rw [e]
   have : ¬ ¬ ∀ j, j < l.length → btwAt lo hi l j := fun hn => hn h
   simp only [andx];rw [decide_eq_false this]; rfl
  ·rw [e];simp only [andx];rw [decide_eq_true h, decide_eq_true hk]
 ·intro k hk _;unfold P_s9_out_L1;obtain ⟨a, ha⟩ := get_some hk;rw [if_pos (by omega), el_at ha, chk_pos (i64_small (by omega))]
  have e : btwAt lo hi l k ↔ (lo ≤ a ∧ a ≤ hi) := by
   unfold btwAt; rw [ha]; exact ⟨fun h => h a rfl, fun h x hx => by cases hx; exact h⟩
  by_cases h1 : a < lo
  ·rw [if_pos h1, if_neg (fun h => by have := e.1 h; omega)]; rfl
  ·rw [if_neg h1]
   by_cases h2 : a > hi
   ·rw [decide_eq_true h2, if_neg (fun h => by have := e.1 h; omega)]; rfl
   ·rw [decide_eq_false h2, if_pos (e.2 (by omega))]; rfl
 ·intro _;unfold P_s9_out_L1;rw [if_neg (by omega)]
open Classical in
theorem s9_out1 (lo hi a : Int) : P_s9_out lo hi [a] = some (decide (¬ btw lo hi a)) := by
 rw [s9_out_eq _ _ _ (by simp)]
 congr 1
 refine decide_eq_decide.2 ?_;refine not_congr ⟨fun h => h 0 (by simp) a rfl, fun h j hj x hx => ?_⟩
 match j with
 | 0 => cases hx; exact h
open Classical in
theorem s9_out2 (lo hi a b : Int) : P_s9_out lo hi [a, b] = some (decide (¬ (btw lo hi a ∧ btw lo hi b))) := by
 rw [s9_out_eq _ _ _ (by simp)]
 congr 1
 refine decide_eq_decide.2 ?_;refine not_congr ⟨fun h => ⟨h 0 (by simp) a rfl, h 1 (by simp) b rfl⟩, fun h j hj x hx => ?_⟩
 match j with
 | 0 => cases hx; exact h.1
 | 1 => cases hx; exact h.2
theorem r1_Place_ok (l : List Str) (w : Str) (hl : l.length ≤ 1000) : Ok (P_r1_Place l w) fun r => (0 ≤ r ↔ w ∈ l) := by
 unfold P_r1_Place;refine .chk (i64_small (by omega)) ?_;refine Ok.andx (P := fun at_ : Int => (0 ≤ at_ ↔ w ∈ l) ∧ at_ < l.length) ?_ ?_
 ·refine Ok.iter (fun at_ : Int => (-1 ≤ at_ ∧ at_ < l.length) ∧ ∀ j : Nat, at_ < j → l[j]? ≠ some w) (fun at_ : Int => (at_ + 1).toNat) ⟨by omega, fun j hj hj' => ?_⟩ ?_
  ·have := (List.getElem?_eq_some_iff.1 hj').1;omega
  ·rintro at_ ⟨h1, h2⟩;unfold P_r1_Place_L1
   by_cases h3 : at_ ≥ 0
   ·rw [if_pos h3];obtain ⟨k, rfl⟩ := Int.eq_ofNat_of_zero_le h3;obtain ⟨a, ha⟩ := get_some (l := l) (k := k) (by omega);rw [el_at ha]
    by_cases h4 : a = w
    ·simp only [h4, not_true, decide_false, andx, seqx];refine .some ⟨⟨fun _ => h4 ▸ List.mem_of_getElem? ha, fun _ => h3⟩, h1.2⟩
    ·simp only [h4, not_false_iff, decide_true, andx, seqx, if_true];refine .chk (i64_small (by omega)) (.some ⟨⟨by omega, fun j hj => ?_⟩, by show ((k : Int) - 1 + 1).toNat < ((k : Int) + 1).toNat; omega⟩)
     by_cases hjk : j = k
     ·subst hjk; rw [ha]; exact fun e => h4 (by cases e; rfl)
     ·exact h2 j (by omega)
   ·rw [if_neg h3];simp only [andx, seqx];refine .some ⟨⟨fun h => absurd h h3, fun h => ?_⟩, h1.2⟩;obtain ⟨j, hj⟩ := List.getElem?_of_mem h;exact absurd hj (h2 j (by omega))
 ·rintro at_ ⟨h1, h2⟩;refine Ok.seqx ?_
  by_cases h0 : 0 ≤ at_
  ·refine Ok.count id at_.toNat (fun _ _ => True) rfl trivial ?_ ?_
   ·rintro k x hk hx _;simp only [id] at hx;subst hx;unfold P_r1_Place_L2;obtain ⟨a, ha⟩ := get_some (l := l) (k := k) (by omega);rw [if_pos (by omega), el_at ha];refine .ite (fun h => .some ?_) (fun h => .chk (i64_small (by omega)) (.some ⟨rfl, trivial⟩))
    show (0 ≤ (k : Int) ↔ w ∈ l);exact ⟨fun _ => h1.1 h0, fun _ => by omega⟩
   ·rintro x hx _;simp only [id] at hx;unfold P_r1_Place_L2;rw [if_neg (by omega)];exact .some (.some h1)
  ·refine Ok.count id 0 (fun _ _ => True) rfl trivial (fun k x hk => by omega) ?_;rintro x hx _;simp only [id] at hx;unfold P_r1_Place_L2;rw [if_neg (by omega)];exact .some (.some h1)
open Classical in
noncomputable def clErr (cl : List Str) (i : Nat) (a : Str) : Int := if isName a then (if a ∈ cl.take i then 5 else 0) else 6
open Classical in
theorem r1_Fresh_eq (w : Str) (cl : List Str) (i : Nat) (hl : cl.length ≤ 1000) : P_r1_Fresh w (cl.take i) = some (clErr cl i w) := by
 refine Ok.get ?_;unfold P_r1_Fresh;refine Ok.andx (P := fun e => e = if w ∈ cl.take i then 5 else 0) ((r1_Place_ok _ w (by rw [List.length_take]; omega)).andx fun r hr => ?_) ?_
 ·refine .ite (fun h => .some ?_) (fun h => .some ?_)
  ·rw [if_pos (hr.1 h)]
  ·rw [if_neg fun h' => h (hr.2 h')]
 ·rintro e he;rw [r1_Name_eq];unfold clErr;subst he
  by_cases h : isName w
  ·simp only [h, decide_true, andx, if_true]; exact .some rfl
  ·simp only [h, decide_false, andx, if_false, Bool.false_eq_true]; exact .some rfl
end Go.Am
end
section
namespace Go.Am
set_option linter.unusedVariables false
set_option linter.unusedSimpArgs false
def shOk (a : S_api_SfShelf) : Prop := (btw 0 1000 a.away ∧ btw 0 1000 a.climb) ∧ (btw 1 2000 a.wide ∧ btw 1 2000 a.high)
open Classical in
noncomputable def shErr (a : S_api_SfShelf) : Int := if shOk a then 0 else 7
open Classical in
noncomputable def mkErr (ncl : Nat) (c n : Int) (s : Str) : Int :=
 if btw 0 ((ncl : Int) - 1) c then (if btw 1 9999 n then (if s.length ≤ 2 then (if isLow s then 0 else 6) else 6) else 7) else 4
open Classical in
theorem r9_Mark_eq {cl : List Str} {sh : List S_api_SfShelf} {bs : List S_api_SfBook} {c n : Int} {s : Str} (hl : cl.length ≤ 1000) : P_r9_Mark cl sh bs c n s = some (mkErr cl.length c n s) := by
 unfold P_r9_Mark;rw [chk_pos (i64_small (by omega)), r9_in_eq, r9_in_eq, andx_some'];unfold mkErr
 by_cases h1 : btw 0 ((cl.length : Int) - 1) c
 ·rw [if_pos h1, decide_eq_true (show _ ∧ _ from h1), if_pos rfl, andx_some']
  by_cases h2 : btw 1 9999 n
  ·rw [if_pos h2, decide_eq_true (show _ ∧ _ from h2), if_pos rfl]
   by_cases h3 : s.length ≤ 2
   ·rw [if_neg (by omega), r9_letters_eq s (by omega), if_pos h3]
    by_cases h4 : isLow s
    ·rw [if_pos h4, decide_eq_true h4]; rfl
    ·rw [if_neg h4, decide_eq_false h4]; rfl
   ·rw [if_pos (by omega), if_neg h3]; rfl
  ·rw [if_neg h2, decide_eq_false (show ¬ (_ ∧ _) from h2), if_neg (by decide)]
 ·rw [if_neg h1, decide_eq_false (show ¬ (_ ∧ _) from h1), if_neg (by decide)]
open Classical in
theorem s9_mark_eq {cl : List Str} {sh : List S_api_SfShelf} {bs : List S_api_SfBook} {c n : Int} {s : Str} (hl : cl.length ≤ 1000) : P_s9_mark cl sh bs c n s = some (mkErr cl.length c n s) := by
 unfold P_s9_mark;rw [chk_pos (i64_small (by omega)), s9_out1, s9_out1, andx_some'];unfold mkErr
 by_cases h1 : btw 0 ((cl.length : Int) - 1) c
 ·rw [if_pos h1, decide_eq_false (not_not_intro h1), if_neg (by decide), andx_some']
  by_cases h2 : btw 1 9999 n
  ·rw [if_pos h2, decide_eq_false (not_not_intro h2), if_neg (by decide)]
   by_cases h3 : s.length ≤ 2
   ·rw [if_neg (by omega), if_pos h3];rw [iter_scan (fun k : Nat => k) (fun i => if lowerN (byteAt s i) then none else some 6) s.length (fun _ => rfl), seqx_scan, find_if]
    ·by_cases h : ∀ j, j < s.length → lowerN (byteAt s j)
     ·rw [if_pos h, if_pos (show isLow s from h)]
     ·rw [if_neg h, if_neg (show ¬ isLow s from h)]
    ·intro k hk hj;unfold P_s9_mark_L1;rw [if_pos hk]
     show _ = some (scanS (k + 1) _)
     have hb := byteAt_lt s (k : Int);unfold lowerN
     rcases rune_low hk with ⟨h1, h2⟩ | ⟨h1, h2⟩
     ·rw [h1, h2];generalize byteAt s (k : Int) = x
      by_cases a1 : x < 97
      ·rw [if_pos a1, if_neg (show ¬ (97 ≤ x ∧ x ≤ 122) by omega)]; rfl
      ·rw [if_neg a1]
       by_cases a2 : x > 122
       ·rw [if_neg (show ¬ (97 ≤ x ∧ x ≤ 122) by omega), decide_eq_true a2]; rfl
       ·rw [if_pos (show (97 ≤ x ∧ x ≤ 122) by omega), decide_eq_false a2]; rfl
     ·generalize byteAt s (k : Int) = x at *;generalize runeAt s k = y at *;rw [if_neg (show ¬ (97 ≤ x ∧ x ≤ 122) by omega), if_neg (show ¬ y < 97 by omega), decide_eq_true (show y > 122 by omega)]; rfl
    ·intro hj;unfold P_s9_mark_L1;rw [if_neg (by omega)]
   ·rw [if_pos (by omega), if_neg h3]
  ·rw [if_neg h2, decide_eq_true h2, if_pos rfl]
 ·rw [if_neg h1, decide_eq_true h1, if_pos rfl]
def sameMark (a : S_api_SfBook) (c n : Int) (s : Str) : Prop := a.mark_class = c ∧ a.mark_number = n ∧ a.mark_suffix = s
def twice (l : List S_api_SfBook) (c n : Int) (s : Str) : Prop := ∃ j, j < l.length ∧ ∃ a, l[j]? = some a ∧ sameMark a c n s
def bkRange (w h y : Int) : Prop := btw 1 2000 w ∧ btw 1 2000 h ∧ btw 1 100 y
open Classical in
noncomputable def bkErr1 (ncl : Nat) (c n : Int) (s : Str) (w h y : Int) (before : List S_api_SfBook) : Int :=
 if mkErr ncl c n s = 0 then (if bkRange w h y then (if twice before c n s then 5 else 0) else 7) else mkErr ncl c n s
open Classical in
theorem r9_Book_eq {cl : List Str} {sh : List S_api_SfShelf} {bs : List S_api_SfBook} {c n : Int} {s : Str} {w h y p : Int} {before : List S_api_SfBook} (hl : cl.length ≤ 1000) (hb : before.length ≤ 1000) :
  P_r9_Book cl sh bs c n s w h y p before = some (bkErr1 cl.length c n s w h y before) := by
 refine Ok.get ?_;unfold P_r9_Book;rw [r9_Mark_eq hl, andx_some'];simp only [r9_in_eq];generalize he : mkErr cl.length c n s = e0;refine Ok.andx (P := fun e => e = if e0 = 0 then (if bkRange w h y then 0 else 7) else e0) ?_ ?_
 ·by_cases h0 : e0 = 0
  ·simp only [h0, if_true, andx]
   by_cases h1 : btw 1 2000 w
   ·have h1' : 1 ≤ w ∧ w ≤ 2000 := h1;simp only [h1', and_self, decide_true, if_true]
    by_cases h2 : btw 1 2000 h
    ·have h2' : 1 ≤ h ∧ h ≤ 2000 := h2;simp only [h2', and_self, decide_true, if_true]
     by_cases h3 : btw 1 100 y
     ·have h3' : 1 ≤ y ∧ y ≤ 100 := h3;simp only [h3', and_self, decide_true, Bool.not_true, Bool.false_eq_true, if_false];refine .some ?_;rw [if_pos (show bkRange w h y from ⟨h1, h2, h3⟩)]
     ·have h3' : ¬ (1 ≤ y ∧ y ≤ 100) := h3;simp only [h3', decide_false, Bool.not_false, if_true];refine .some ?_;rw [if_neg (show ¬ bkRange w h y from fun k => h3 k.2.2)]
    ·have h2' : ¬ (1 ≤ h ∧ h ≤ 2000) := h2;simp only [h2', decide_false, Bool.false_eq_true, if_false, if_true];refine .some ?_;rw [if_neg (show ¬ bkRange w h y from fun k => h2 k.2.1)]
   ·have h1' : ¬ (1 ≤ w ∧ w ≤ 2000) := h1;simp only [h1', decide_false, Bool.false_eq_true, if_false, if_true];refine .some ?_;rw [if_neg (show ¬ bkRange w h y from fun k => h1 k.1)]
  ·simp only [h0, if_false, andx, Bool.false_eq_true];exact .some rfl
 ·rintro e hee;refine Ok.andx (P := fun r => r = bkErr1 cl.length c n s w h y before) ?_ (fun r hr => .some hr)
  have fin : bkErr1 cl.length c n s w h y before = if e = 0 then (if twice before c n s then 5 else 0) else e := by
   unfold bkErr1;rw [he]
   by_cases h0 : e0 = 0
   ·rw [if_pos h0]
    by_cases h1 : bkRange w h y
    ·rw [if_pos h1, hee, if_pos h0, if_pos h1, if_pos rfl]
    ·rw [if_neg h1, hee, if_pos h0, if_neg h1]; rfl
   ·rw [if_neg h0, hee, if_neg h0, if_neg h0]
  rw [fin];refine Ok.iter (fun (x : Int × Int) => 0 ≤ x.2 ∧ x.2 ≤ before.length ∧ ((x.1 = e ∧ (e ≠ 0 ∨ ∀ j : Nat, j < x.2 → ∀ a, before[j]? = some a → ¬ sameMark a c n s)) ∨ (e = 0 ∧ x.1 = 5 ∧ twice before c n s))) (fun x => (before.length - x.2).toNat) ⟨by simp, by simp, .inl ⟨rfl, .inr fun j hj => by simp at hj; omega⟩⟩ ?_;rintro ⟨e2, i⟩ ⟨h1, h2, h3⟩;obtain ⟨k, hk⟩ := Int.eq_ofNat_of_zero_le h1;simp only at hk h1 h2 h3;subst hk;unfold P_r9_Book_L1
  show Ok (seqx _ _) _;refine Ok.seqx ?_
  by_cases hlt : (k : Int) < before.length
  ·rw [if_pos hlt]
   by_cases he2 : e2 = 0
   ·rw [decide_eq_true he2];refine .some ?_
    show Ok (andx _ _) _;obtain ⟨a, ha⟩ := get_some (l := before) (k := k) (by omega);refine Ok.andx (P := fun e3 => (sameMark a c n s ∧ e3 = 5) ∨ (¬ sameMark a c n s ∧ e3 = e2)) ?_ ?_
    ·rw [el_at ha];exact .ite (fun h => .some (.inl ⟨h, rfl⟩)) (fun h => .some (.inr ⟨h, rfl⟩))
    ·rintro e3 h4;refine .chk (i64_small (by omega)) (.some ⟨⟨by show (0:Int) ≤ (k : Int) + 1; omega, by show (k : Int) + 1 ≤ _; omega, ?_⟩, by show ((before.length : Int) - ((k : Int) + 1)).toNat < ((before.length : Int) - (k : Int)).toNat; omega⟩)
     rcases h3 with ⟨h5, h6⟩ | ⟨h5, h6, h7⟩
     ·have e00 : e = 0 := h5.symm.trans he2
      rcases h4 with ⟨h8, h9⟩ | ⟨h8, h9⟩
      ·exact .inr ⟨e00, h9, k, by omega, a, ha, h8⟩
      ·refine .inl ⟨h9.trans h5, .inr fun j hj a' ha' => ?_⟩
       by_cases hjk : j = k
       ·subst hjk; rw [ha] at ha'; cases ha'; exact h8
       ·rcases h6 with h6 | h6
        ·exact absurd e00 h6
        ·exact h6 j (by simp only at hj; omega) a' ha'
     ·exact absurd (h6.symm.trans he2) (by decide)
   ·rw [decide_eq_false he2];refine .some ?_
    show e2 = _
    rcases h3 with ⟨h5, h6⟩ | ⟨h5, h6, h7⟩
    ·rw [if_neg (fun h => he2 (h5.trans h)), h5]
    ·rw [if_pos h5, if_pos h7, h6]
  ·rw [if_neg hlt];refine .some ?_
   show e2 = _
   rcases h3 with ⟨h5, h6⟩ | ⟨h5, h6, h7⟩
   ·by_cases he0 : e = 0
    ·rw [if_pos he0, if_neg, h5, he0];rintro ⟨j, hj, a, ha, hs⟩
     rcases h6 with h6 | h6
     ·exact h6 he0
     ·exact h6 j (by omega) a ha hs
    ·rw [if_neg he0, h5]
   ·rw [if_pos h5, if_pos h7, h6]
def bookHit (l : List S_api_SfBook) (c n : Int) (s : Str) (i : Nat) : Prop := ∃ a, l[i]? = some a ∧ sameMark a c n s
def bookMiss (l : List S_api_SfBook) (c n : Int) (s : Str) (i : Nat) : Prop := ¬ bookHit l c n s i
open Classical in
theorem s9_book_eq {cl : List Str} {sh : List S_api_SfShelf} {bs : List S_api_SfBook} {c n : Int} {s : Str} {w h y p : Int} {before : List S_api_SfBook} (hl : cl.length ≤ 1000) (hb : before.length ≤ 1000) :
  P_s9_book cl sh bs c n s w h y p before = some (bkErr1 cl.length c n s w h y before) := by
 unfold P_s9_book;rw [s9_mark_eq hl, andx_some'];unfold bkErr1
 by_cases h0 : mkErr cl.length c n s = 0
 ·rw [if_pos h0, if_neg (not_not_intro h0), s9_out2, s9_out1, andx_some', andx_some']
  by_cases h1 : btw 1 2000 w ∧ btw 1 2000 h
  ·rw [decide_eq_false (not_not_intro h1), if_neg (by decide), andx_some']
   by_cases h2 : btw 1 100 y
   ·rw [decide_eq_false (not_not_intro h2), if_neg (by decide), if_pos (show bkRange w h y from ⟨h1.1, h1.2, h2⟩)];rw [iter_scanI (fun i => if bookMiss before c n s i then none else some (i : Int)) before.length, seqx_scan]
    ·rcases find_idx (P := bookMiss before c n s) (n := before.length) with ⟨h, e⟩ | ⟨h, k, hk, e⟩
     ·rw [e, if_neg (show ¬ twice before c n s from fun ⟨j, hj, a, ha, hs⟩ => h j hj ⟨a, ha, hs⟩)];rfl
     ·rw [e, if_pos (show twice before c n s from ?_)]
      ·show seqx (if k ≥ 0 then _ else _) _ = _;rw [if_pos (by omega)]; rfl
      ·refine Classical.byContradiction fun hn => h fun j hj ⟨a, ha, hs⟩ => hn ⟨j, hj, a, ha, hs⟩
    ·intro k hk _;unfold P_s9_book_L1;obtain ⟨a, ha⟩ := get_some hk;rw [if_pos (by omega), el_at ha, chk_pos (i64_small (by omega))]
     by_cases hs : sameMark a c n s
     ·rw [if_pos (show _ ∧ _ from hs), if_neg (show ¬ bookMiss before c n s k from not_not_intro ⟨a, ha, hs⟩)]; rfl
     ·rw [if_neg (show ¬ (_ ∧ _) from hs), if_pos (show bookMiss before c n s k from fun ⟨a', ha', hs'⟩ => by rw [ha] at ha'; cases ha'; exact hs hs')]; rfl
    ·intro _;unfold P_s9_book_L1;rw [if_neg (by omega)]
   ·rw [decide_eq_true h2, if_pos rfl, if_neg (show ¬ bkRange w h y from fun k => h2 k.2.2)]; rfl
  ·rw [decide_eq_true h1, if_pos rfl, andx_some', if_pos rfl, if_neg (show ¬ bkRange w h y from fun k => h1 ⟨k.1, k.2.1⟩)]; rfl
 ·rw [if_neg h0, if_pos h0]
end Go.Am
end
section
namespace Go.Am
set_option linter.unusedVariables false
set_option linter.unusedSimpArgs false
noncomputable def errAt {α : Type} (l : List α) (g : Nat → α → Int) (i : Nat) : Int := match l[i]? with | some a => g i a | none => 0
theorem errAt_of {α : Type} {l : List α} {g : Nat → α → Int} {i : Nat} {a : α} (h : l[i]? = some a) : errAt l g i = g i a := by unfold errAt; rw [h]
noncomputable def errF (f : Nat → Int) (i : Nat) : Option (Int × Int) := if f i = 0 then none else some ((i : Int), f i)
noncomputable def errG (c : Int) (f : Nat → Int) (i : Nat) : Option (Int × Int × Int) := if f i = 0 then none else some (c, (i : Int), f i)
noncomputable def firstE (f : Nat → Int) (n : Nat) : Option (Int × Int) := (List.range n).findSome? (errF f)
theorem first_fail {f : Nat → Int} : ∀ n : Nat, (∀ j, j < n → f j = 0) ∨ ∃ k, k < n ∧ f k ≠ 0 ∧ ∀ j, j < k → f j = 0 := by
 intro n
 induction n with
 | zero => exact .inl fun j hj => by omega
 | succ n ih =>
  rcases ih with h | ⟨k, h1, h2, h3⟩
  ·by_cases hn : f n = 0
   ·exact .inl fun j hj => by
     by_cases e : j = n
     ·rw [e]; exact hn
     ·exact h j (by omega)
   ·exact .inr ⟨n, by omega, hn, h⟩
  ·exact .inr ⟨k, by omega, h2, h3⟩
theorem firstE_cases (f : Nat → Int) (n : Nat) : (firstE f n = none ∧ (∀ c, (List.range n).findSome? (errG c f) = none) ∧ ∀ j, j < n → f j = 0) ∨
  ∃ k, k < n ∧ f k ≠ 0 ∧ firstE f n = some ((k : Int), f k) ∧ (∀ c, (List.range n).findSome? (errG c f) = some (c, (k : Int), f k)) := by
 rcases first_fail (f := f) n with h | ⟨k, h1, h2, h3⟩
 ·exact .inl ⟨find_none fun j hj => if_pos (h j hj), fun c => find_none fun j hj => if_pos (h j hj), h⟩
 ·exact .inr ⟨k, h1, h2, find_range h1 (fun j hj => if_pos (h3 j hj)) (if_neg h2), fun c => find_range h1 (fun j hj => if_pos (h3 j hj)) (if_neg h2)⟩
theorem loopR {c : Int} {f : Nat → Int} {n : Nat} {k : Unit → Option (Int × Int × Int)} : seqx (some (scanX (errG c f) n)) k = match firstE f n with | some p => some (c, p.1, p.2) | none => k () := by
 rw [seqx_scan]
 rcases firstE_cases f n with ⟨h1, h2, h3⟩ | ⟨i, h1, h2, h3, h4⟩
 ·rw [h1, h2 c]
 ·rw [h3, h4 c]
theorem loopS {c : Int} {f : Nat → Int} {n : Nat} {k : Option (Int × Int × Int)} {K : Int × Int → Option (Int × Int × Int)} (hK : ∀ p, K p = if ¬ p.2 = 0 then some (c, p.1, p.2) else k) :
  andx (seqx (some (scanX (errF f) n)) fun _ => some (0, 0)) K = match firstE f n with | some p => some (c, p.1, p.2) | none => k := by
 rw [seqx_scan]
 rcases firstE_cases f n with ⟨h1, h2, h3⟩ | ⟨i, h1, h2, h3, h4⟩
 ·rw [h1, show (List.range n).findSome? (errF f) = none from h1]
  show K (0, 0) = k;rw [hK, if_neg (not_not_intro rfl)]
 ·rw [h3, show (List.range n).findSome? (errF f) = _ from h3]
  show K _ = _;rw [hK, if_pos h2]
theorem body_err {A : Type} {e : Int} {v : A} {k : Nat} (hk : k ≤ 1000) : (if ¬ e = 0 then some (Stp.dn (Ex.rt v)) else chk (I64 ((k : Int) + 1)) (some (Stp.ag ((k : Int) + 1)))) = some (scanS ((k : Int) + 1) (if e = 0 then (none : Option A) else some v)) := by
 rw [chk_pos (i64_small (by omega))]
 by_cases h : e = 0
 ·rw [if_neg (not_not_intro h), if_pos h]; rfl
 ·rw [if_pos h, if_neg h]; rfl
theorem take_sub {α : Type} (l : List α) (k : Nat) : List.take ((k : Int) - (0 : Int)).toNat (List.drop ((0 : Int) : Int).toNat l) = l.take k := by
 simp
theorem r9_L1_eq {cl : List Str} (hl : cl.length ≤ 1000) : iter (P_r9_Check_L1 cl) 0 = some (scanX (errG 1 (errAt cl (clErr cl))) cl.length) := by
 refine iter_scanI _ _ (fun k hk _ => ?_) (fun _ => ?_)
 ·unfold P_r9_Check_L1;obtain ⟨a, ha⟩ := get_some hk;rw [if_pos (by omega), el_at ha, chk_pos (by omega), take_sub, r1_Fresh_eq _ _ _ hl, andx_some', body_err (by omega)];unfold errG;rw [errAt_of ha]
 ·unfold P_r9_Check_L1;rw [if_neg (by omega)]
def clHit (l : List Str) (w : Str) (i : Nat) : Prop := ∃ a, l[i]? = some a ∧ w = a
def clMiss (l : List Str) (w : Str) (i : Nat) : Prop := ¬ clHit l w i
open Classical in
theorem s9_L2_eq {cl : List Str} {k : Nat} {w : Str} (hl : cl.length ≤ 1000) : iter (P_s9_Check_L2 cl (k : Int) w) 0 = some (scanX (fun i => if clMiss (cl.take k) w i then none else some (i : Int)) (cl.take k).length) := by
 have hle : (cl.take k).length ≤ 1000 := by rw [List.length_take]; omega
 refine iter_scanI _ _ (fun j hj _ => ?_) (fun _ => ?_)
 ·unfold P_s9_Check_L2;rw [take_sub];obtain ⟨a, ha⟩ := get_some hj;rw [if_pos (by omega), el_at ha, chk_pos (i64_small (by omega))]
  by_cases h : w = a
  ·rw [if_pos h, if_neg (show ¬ clMiss _ _ _ from not_not_intro ⟨a, ha, h⟩)]; rfl
  ·rw [if_neg h, if_pos (show clMiss _ _ _ from fun ⟨a', ha', hs'⟩ => by rw [ha] at ha'; cases ha'; exact h hs')]; rfl
 ·unfold P_s9_Check_L2;rw [take_sub, if_neg (by omega)]
open Classical in
theorem s9_L1_eq {cl : List Str} (hl : cl.length ≤ 1000) : iter (P_s9_Check_L1 cl) 0 = some (scanX (errF (errAt cl (clErr cl))) cl.length) := by
 refine iter_scanI _ _ (fun k hk _ => ?_) (fun _ => ?_)
 ·unfold P_s9_Check_L1;obtain ⟨a, ha⟩ := get_some hk;rw [if_pos (by omega), el_at ha]
  have e : (andx (P_q_Name a) fun y8 => if y8 = true then chk (0 ≤ (0 : Int) ∧ (0 : Int) ≤ (k : Int) ∧ (k : Int) ≤ (cl.length : Int)) (andx (seqx (iter (P_s9_Check_L2 cl (k : Int) a) 0) fun _ => some (-1)) fun y7 => if y7 ≥ 0 then some 5 else some 0) else some 6) = some (clErr cl k a) := by
   rw [q_Name_eq, andx_some'];unfold clErr
   by_cases hn : isName a
   ·rw [decide_eq_true hn, if_pos rfl, if_pos hn, chk_pos (by omega), s9_L2_eq hl, seqx_scan]
    rcases find_idx (P := clMiss (cl.take k) a) (n := (cl.take k).length) with ⟨h, e⟩ | ⟨h, i, hi, e⟩
    ·rw [e, if_neg]
     ·rfl
     ·intro hm;obtain ⟨j, hj⟩ := List.getElem?_of_mem hm;exact h j (List.getElem?_eq_some_iff.1 hj).1 ⟨a, hj, rfl⟩
    ·rw [e, if_pos]
     ·show (if i ≥ 0 then _ else _) = _;rw [if_pos (by omega)]
     ·refine Classical.byContradiction fun hn => h fun j hj ⟨a', ha', hs⟩ => hn ?_
      rw [hs];exact List.mem_of_getElem? ha'
   ·rw [decide_eq_false hn, if_neg (by decide), if_neg hn]
  rw [e, andx_some', body_err (by omega)];unfold errF;rw [errAt_of ha]
 ·unfold P_s9_Check_L1;rw [if_neg (by omega)]
open Classical in
theorem r9_L2_eq {sh : List S_api_SfShelf} (hl : sh.length ≤ 1000) : iter (P_r9_Check_L2 sh) 0 = some (scanX (errG 2 (errAt sh fun _ => shErr)) sh.length) := by
 refine iter_scanI _ _ (fun k hk _ => ?_) (fun _ => ?_)
 ·unfold P_r9_Check_L2;obtain ⟨a, ha⟩ := get_some hk;rw [if_pos (by omega), el_at ha, chk_pos (i64_small (by omega))];simp only [r9_in_eq];unfold errG;rw [errAt_of ha];unfold shErr
  by_cases h1 : 0 ≤ a.away ∧ a.away ≤ 1000
  ·by_cases h2 : 0 ≤ a.climb ∧ a.climb ≤ 1000
   ·by_cases h3 : 1 ≤ a.wide ∧ a.wide ≤ 2000
    ·by_cases h4 : 1 ≤ a.high ∧ a.high ≤ 2000
     ·rw [if_pos (show shOk a from ⟨⟨h1, h2⟩, h3, h4⟩)];simp [andx, seqx, scanS, h1, h2, h3, h4]
     ·rw [if_neg (show ¬ shOk a from fun h => h4 h.2.2)];simp only [andx, seqx, scanS, decide_eq_true h1, decide_eq_true h2, decide_eq_true h3, decide_eq_false h4]; rfl
    ·rw [if_neg (show ¬ shOk a from fun h => h3 h.2.1)];simp only [andx, seqx, scanS, decide_eq_true h1, decide_eq_true h2, decide_eq_false h3]; rfl
   ·rw [if_neg (show ¬ shOk a from fun h => h2 h.1.2)];simp only [andx, seqx, scanS, decide_eq_true h1, decide_eq_false h2]; rfl
  ·rw [if_neg (show ¬ shOk a from fun h => h1 h.1.1)];simp only [andx, seqx, scanS, decide_eq_false h1]; rfl
 ·unfold P_r9_Check_L2;rw [if_neg (by omega)]
open Classical in
theorem s9_L3_eq {sh : List S_api_SfShelf} (hl : sh.length ≤ 1000) : iter (P_s9_Check_L3 sh) 0 = some (scanX (errF (errAt sh fun _ => shErr)) sh.length) := by
 refine iter_scanI _ _ (fun k hk _ => ?_) (fun _ => ?_)
 ·unfold P_s9_Check_L3;obtain ⟨a, ha⟩ := get_some hk;rw [if_pos (by omega), el_at ha];simp only [s9_out2, andx_some'];rw [show (seqx (andx (if decide (¬ (btw 0 1000 a.away ∧ btw 0 1000 a.climb)) = true then some true else some (decide (¬ (btw 1 2000 a.wide ∧ btw 1 2000 a.high)))) fun x18 => if x18 = true then some (Ex.rt 7) else some (Ex.nx ())) fun _ => some 0) = some (shErr a) from ?_, andx_some', body_err (by omega)]
  ·unfold errF;rw [errAt_of ha]
  ·unfold shErr
   by_cases h1 : btw 0 1000 a.away ∧ btw 0 1000 a.climb
   ·rw [decide_eq_false (not_not_intro h1), if_neg (by decide)]
    by_cases h2 : btw 1 2000 a.wide ∧ btw 1 2000 a.high
    ·rw [decide_eq_false (not_not_intro h2), if_pos (show shOk a from ⟨h1, h2⟩)]; rfl
    ·rw [decide_eq_true h2, if_neg (show ¬ shOk a from fun h => h2 h.2)]; rfl
   ·rw [decide_eq_true h1, if_pos rfl, if_neg (show ¬ shOk a from fun h => h1 h.1)]; rfl
 ·unfold P_s9_Check_L3;rw [if_neg (by omega)]
def below (bs : List S_api_SfBook) (i : Nat) (b : S_api_SfBook) : Prop := 0 < i ∧ ∃ c, bs[i - 1]? = some c ∧ b.shelf < c.shelf
noncomputable def bkE0 (ncl : Nat) (bs : List S_api_SfBook) (i : Nat) (b : S_api_SfBook) : Int := bkErr1 ncl b.mark_class b.mark_number b.mark_suffix b.wide b.high b.heavy (bs.take i)
open Classical in
noncomputable def bkErr (ncl nsh : Nat) (bs : List S_api_SfBook) (i : Nat) (b : S_api_SfBook) : Int :=
 if bkE0 ncl bs i b = 0 then (if btw 0 ((nsh : Int) - 1) b.shelf then (if below bs i b then 2 else 0) else 4) else bkE0 ncl bs i b
open Classical in
theorem below_eq {bs : List S_api_SfBook} {k : Nat} {b : S_api_SfBook} (hl : bs.length ≤ 1000) (hk : k < bs.length) :
  (if (k : Int) > 0 then chk (I64 ((k : Int) - 1)) (el bs ((k : Int) - 1) fun a => some (decide (b.shelf < a.shelf))) else some false) = some (decide (below bs k b)) := by
 by_cases h : (k : Int) > 0
 ·rw [if_pos h, chk_pos (i64_small (by omega))];obtain ⟨a, ha⟩ := get_some (l := bs) (k := k - 1) (by omega)
  have e : (k : Int) - 1 = ((k - 1 : Nat) : Int) := by omega
  rw [e, el_at ha]
  congr 1
  refine decide_eq_decide.2 ⟨fun h' => ⟨by omega, a, ha, h'⟩, fun ⟨_, c, hc, h'⟩ => by rw [ha] at hc; cases hc; exact h'⟩
 ·rw [if_neg h, decide_eq_false];exact fun h' => h (by have := h'.1; omega)
open Classical in
theorem r9_L3_eq {cl : List Str} {sh : List S_api_SfShelf} {bs : List S_api_SfBook} (hc : cl.length ≤ 1000) (hs : sh.length ≤ 1000) (hl : bs.length ≤ 1000) :
  iter (P_r9_Check_L3 cl sh bs) 0 = some (scanX (errG 3 (errAt bs (bkErr cl.length sh.length bs))) bs.length) := by
 refine iter_scanI _ _ (fun k hk _ => ?_) (fun _ => ?_)
 ·unfold P_r9_Check_L3;obtain ⟨b, hb⟩ := get_some hk;rw [if_pos (by omega), el_at hb, chk_pos (by omega), take_sub, r9_Book_eq hc (by rw [List.length_take]; omega), andx_some', chk_pos (show I64 ((sh.length : Int) - 1) from i64_small (by omega)), chk_pos (show I64 ((k : Int) + 1) from i64_small (by omega))];rw [below_eq hl hk];unfold errG;rw [errAt_of hb];unfold bkErr
  change _ = some (scanS _ _)
  rw [show bkErr1 cl.length b.mark_class b.mark_number b.mark_suffix b.wide b.high b.heavy (bs.take k) = bkE0 cl.length bs k b from rfl];simp only [r9_in_eq];generalize bkE0 cl.length bs k b = e0
  by_cases h0 : e0 = 0
  ·subst h0
   by_cases h1 : btw 0 ((sh.length : Int) - 1) b.shelf
   ·have h1' : 0 ≤ b.shelf ∧ b.shelf ≤ (sh.length : Int) - 1 := h1
    by_cases h2 : below bs k b
    ·simp only [h1, h1', h2, if_true, andx, seqx, decide_true, Bool.not_true, Bool.false_eq_true, if_false, scanS, and_self]; rfl
    ·simp only [h1, h1', h2, if_true, andx, seqx, decide_true, decide_false, Bool.not_true, Bool.false_eq_true, if_false, scanS, and_self]; rfl
   ·have h1' : ¬ (0 ≤ b.shelf ∧ b.shelf ≤ (sh.length : Int) - 1) := h1;simp only [h1, h1', if_true, andx, seqx, decide_false, Bool.not_false, Bool.false_eq_true, if_false, scanS]; rfl
  ·simp only [h0, if_false, andx, seqx, Bool.false_eq_true, not_false_iff, if_true, scanS]
 ·unfold P_r9_Check_L3;rw [if_neg (by omega)]
open Classical in
theorem s9_L4_eq {cl : List Str} {sh : List S_api_SfShelf} {bs : List S_api_SfBook} (hc : cl.length ≤ 1000) (hs : sh.length ≤ 1000) (hl : bs.length ≤ 1000) :
  iter (P_s9_Check_L4 cl sh bs) 0 = some (scanX (errF (errAt bs (bkErr cl.length sh.length bs))) bs.length) := by
 refine iter_scanI _ _ (fun k hk _ => ?_) (fun _ => ?_)
 ·unfold P_s9_Check_L4;obtain ⟨b, hb⟩ := get_some hk;rw [if_pos (by omega), el_at hb, chk_pos (by omega), take_sub, s9_book_eq hc (by rw [List.length_take]; omega), andx_some', chk_pos (i64_small (by omega)), s9_out1, andx_some'];rw [below_eq hl hk]
  have e : (seqx (if ¬ bkE0 cl.length bs k b = 0 then some (Ex.rt (bkE0 cl.length bs k b)) else if decide (¬ btw 0 ((sh.length : Int) - 1) b.shelf) = true then some (Ex.rt 4) else andx (some (decide (below bs k b))) fun x28 => if x28 = true then some (Ex.rt 2) else some (Ex.nx ())) fun (_ : Unit) => some 0) = some (bkErr cl.length sh.length bs k b) := by
   unfold bkErr;generalize bkE0 cl.length bs k b = e0
   by_cases h0 : e0 = 0
   ·rw [if_neg (not_not_intro h0), if_pos h0]
    by_cases h1 : btw 0 ((sh.length : Int) - 1) b.shelf
    ·rw [decide_eq_false (not_not_intro h1), if_neg (by decide), if_pos h1]
     by_cases h2 : below bs k b
     ·rw [decide_eq_true h2, if_pos h2]; rfl
     ·rw [decide_eq_false h2, if_neg h2]; rfl
    ·rw [decide_eq_true h1, if_pos rfl, if_neg h1]; rfl
   ·rw [if_pos h0, if_neg h0]; rfl
  refine (congrArg (fun z => andx z _) e).trans ?_;rw [andx_some', body_err (by omega)];unfold errF;rw [errAt_of hb]
 ·unfold P_s9_Check_L4;rw [if_neg (by omega)]
end Go.Am
end
section
namespace Go.Am
set_option linter.unusedVariables false
set_option linter.unusedSimpArgs false
def wideOn (i : Int) : List S_api_SfBook → Int
 | [] => 0
 | b :: r => (if b.shelf = i then b.wide else 0) + wideOn i r
theorem wideOn_append (i : Int) (l r : List S_api_SfBook) : wideOn i (l ++ r) = wideOn i l + wideOn i r := by
 induction l with
 | nil => simp [wideOn]
 | cons b l ih => simp [wideOn, ih]; omega
def Wides (l : List S_api_SfBook) : Prop := ∀ b ∈ l, 1 ≤ b.wide ∧ b.wide ≤ 2000
theorem wideOn_nonneg {i : Int} {l : List S_api_SfBook} (h : Wides l) : 0 ≤ wideOn i l ∧ wideOn i l ≤ 2000 * l.length := by
 induction l with
 | nil => simp [wideOn]
 | cons b l ih =>
  have h1 := ih fun c hc => h c (by simp [hc])
  have h2 := h b (by simp);simp only [wideOn, List.length_cons];split <;> omega
theorem take_step {α : Type} {l : List α} {k : Nat} {a : α} (h : l[k]? = some a) : l.take (k + 1) = l.take k ++ [a] := by rw [List.take_add_one, h]; rfl
theorem wideOn_step {i : Int} {l : List S_api_SfBook} {k : Nat} {b : S_api_SfBook} (h : l[k]? = some b) : wideOn i (l.take (k + 1)) = wideOn i (l.take k) + (if b.shelf = i then b.wide else 0) := by
 rw [take_step h, wideOn_append];simp [wideOn]
theorem wideOn_le {i : Int} {l : List S_api_SfBook} (h : Wides l) (k : Nat) : wideOn i (l.take k) ≤ wideOn i l := by
 have e : wideOn i l = wideOn i (l.take k) + wideOn i (l.drop k) := by rw [← wideOn_append, List.take_append_drop]
 have := (wideOn_nonneg (i := i) (l := l.drop k) fun b hb => h b (List.mem_of_mem_drop hb)).1;omega
theorem wideOn_take {i : Int} {l : List S_api_SfBook} (h : Wides l) (k : Nat) : 0 ≤ wideOn i (l.take k) ∧ wideOn i (l.take k) ≤ 2000 * l.length := by
 have h1 := wideOn_nonneg (i := i) (l := l.take k) fun b hb => h b (List.mem_of_mem_take hb)
 have h2 := wideOn_le (i := i) h k
 have h3 := (wideOn_nonneg (i := i) h).2;omega
def lowOn (i : Int) (high : Int) (l : List S_api_SfBook) : Prop := ∀ b ∈ l, b.shelf = i → b.high ≤ high
def fits (bs : List S_api_SfBook) (i : Nat) (a : S_api_SfShelf) : Prop := lowOn i a.high bs ∧ wideOn i bs ≤ a.wide
open Classical in
noncomputable def fitErr (bs : List S_api_SfBook) (i : Nat) (a : S_api_SfShelf) : Int := if fits bs i a then 0 else 9
theorem lowOn_step {i high : Int} {l : List S_api_SfBook} {k : Nat} {b : S_api_SfBook} (h : l[k]? = some b) (h1 : lowOn i high (l.take k)) (h2 : b.shelf = i → b.high ≤ high) : lowOn i high (l.take (k + 1)) := by
 rw [take_step h];intro c hc hs
 rcases List.mem_append.1 hc with hc | hc
 ·exact h1 c hc hs
 ·rw [List.mem_singleton] at hc; subst hc; exact h2 hs
theorem r9_Own_eq {bs : List S_api_SfBook} (hl : bs.length ≤ 1000) : P_r9_Own bs = some (bs.map (·.shelf)) := by
 refine Ok.get ?_;unfold P_r9_Own;refine Ok.andx (P := fun r => r = bs.map (·.shelf)) ?_ (fun r hr => .some hr);refine Ok.count (fun (x : Int × List Int) => x.1) bs.length (fun k x => x.2 = (bs.take k).map (·.shelf)) rfl rfl ?_ ?_
 ·rintro k ⟨i, out⟩ hk hx hI;simp only at hx hI;subst hx;unfold P_r9_Own_L1;obtain ⟨b, hb⟩ := get_some hk
  show Ok (if _ then _ else _) _;rw [if_pos (by omega), el_at hb];refine .chk ?_ (.chk (i64_small (by omega)) (.some ⟨rfl, ?_⟩))
  ·rw [hI, List.length_map, List.length_take]; simp; omega
  ·show out ++ [b.shelf] = _;rw [take_step hb, List.map_append, hI]; rfl
 ·rintro ⟨i, out⟩ hx hI;simp only at hx hI;subst hx;unfold P_r9_Own_L1
  show Ok (if _ then _ else _) _;rw [if_neg (by omega)];refine .some ?_
  show out = _;rw [hI, List.take_length]
open Classical in
theorem r9_fit_eq {cl : List Str} {sh : List S_api_SfShelf} {bs : List S_api_SfBook} {i : Nat} {a : S_api_SfShelf} (ha : sh[i]? = some a) (hw : 0 ≤ a.wide) (hb : Wides bs) (hl : bs.length ≤ 1000) :
  P_r9_fit cl sh bs bs (bs.map (·.shelf)) (i : Int) = some (decide (fits bs i a)) := by
 refine Ok.get ?_;unfold P_r9_fit;rw [el_at ha];refine Ok.andx (P := fun y => (0 ≤ y ∧ lowOn i a.high bs ∧ y = wideOn i bs) ∨ (y < 0 ∧ ¬ lowOn i a.high bs)) ?_ ?_
 ·unfold P_r9_Filled;refine Ok.seqx ?_;refine Ok.count (fun (x : Int × Int) => x.2) bs.length (fun k x => x.1 = wideOn i (bs.take k) ∧ lowOn i a.high (bs.take k)) rfl ⟨rfl, fun b hb => by simp at hb⟩ ?_ ?_
  ·rintro k ⟨n, j⟩ hk hx ⟨h1, h2⟩;simp only at hx h1 h2;subst hx;obtain ⟨b, hbk⟩ := get_some hk
   have hm : (bs.map (·.shelf))[k]? = some b.shelf := by rw [List.getElem?_map, hbk]; rfl
   unfold P_r9_Filled_L1
   show Ok (if _ then _ else _) _
   have hk1 := wideOn_take (i := i) hb k
   have hk2 := wideOn_take (i := i) hb (k + 1)
   have hst := wideOn_step (i := i) hbk;rw [if_pos (by omega)];refine Ok.seqx ?_;rw [el_at hm]
   by_cases hs : b.shelf = i
   ·rw [if_pos hs] at hst;rw [if_neg (not_not_intro hs), el_at hbk, el_at ha, el_at hbk]
    by_cases hh : b.high > a.high
    ·rw [if_pos hh];refine .some ?_
     show _ ∨ _;refine .inr ⟨by omega, fun h => ?_⟩
     have := h b (List.mem_of_getElem? hbk) hs;omega
    ·rw [if_neg hh];refine .chk (i64_small (by omega)) (.some (.chk (i64_small (by omega)) (.some ⟨rfl, ?_, lowOn_step hbk h2 fun _ => by omega⟩)))
     show n + b.wide = _;omega
   ·rw [if_neg hs] at hst;rw [if_pos hs];refine .some (.chk (i64_small (by omega)) (.some ⟨rfl, ?_, lowOn_step hbk h2 fun h => absurd h hs⟩))
    show n = _;omega
  ·rintro ⟨n, j⟩ hx ⟨h1, h2⟩;simp only at hx h1 h2;subst hx;unfold P_r9_Filled_L1
   show Ok (if _ then _ else _) _;rw [if_neg (by omega)];rw [List.take_length] at h1 h2;refine .some (.some (.inl ⟨?_, h2, h1⟩));rw [h1];exact (wideOn_nonneg hb).1
 ·rintro y hy;rw [r9_in_eq, andx_some'];refine .some ?_;refine decide_eq_decide.2 ?_
  rcases hy with ⟨h0, h1, h2⟩ | ⟨h1, h2⟩
  ·subst h2;exact ⟨fun h => ⟨h1, h.2⟩, fun h => ⟨h0, h.2⟩⟩
  ·exact ⟨fun h => by omega, fun h => absurd h.1 h2⟩
open Classical in
theorem s9_L6_eq {sh : List S_api_SfShelf} {bs : List S_api_SfBook} {i : Nat} {a : S_api_SfShelf} (hw : 0 ≤ a.wide ∧ a.wide ≤ 2000) (hb : Wides bs) (hl : bs.length ≤ 1000) :
  (seqx (iter (P_s9_Check_L6 bs (i : Int) a) (0, a.wide)) fun s_Wide => some 0) = some (fitErr bs i a) := by
 refine Ok.get ?_;refine Ok.seqx ?_;refine Ok.count (fun (x : Int × Int) => x.1) bs.length (fun k x => x.2 = a.wide - wideOn i (bs.take k) ∧ 0 ≤ x.2 ∧ lowOn i a.high (bs.take k)) rfl ⟨?_, hw.1, fun b hb => by simp at hb⟩ ?_ ?_
 ·show a.wide = a.wide - 0; omega
 ·rintro k ⟨j, n⟩ hk hx ⟨h1, h0, h2⟩;simp only at hx h1 h2 h0;subst hx;obtain ⟨b, hbk⟩ := get_some hk;unfold P_s9_Check_L6
  show Ok (if _ then _ else _) _
  have hk1 := wideOn_take (i := i) hb k
  have hk2 := wideOn_take (i := i) hb (k + 1)
  have hle := wideOn_le (i := i) hb (k + 1)
  have hst := wideOn_step (i := i) hbk
  have hbw := hb b (List.mem_of_getElem? hbk);rw [if_pos (by omega)];refine Ok.seqx ?_;rw [el_at hbk]
  by_cases hs : b.shelf = i
  ·rw [if_pos hs] at hst;rw [if_neg (not_not_intro hs), chk_pos (i64_small (by omega))]
   by_cases hn : n - b.wide < 0
   ·rw [if_pos hn, andx_some', if_pos rfl];refine .some ?_
    show 9 = fitErr bs i a;unfold fitErr;rw [if_neg fun h => ?_]
    have := h.2;omega
   ·rw [if_neg hn, andx_some']
    by_cases hh : b.high > a.high
    ·rw [decide_eq_true hh, if_pos rfl];refine .some ?_
     show 9 = fitErr bs i a;unfold fitErr;rw [if_neg fun h => ?_]
     have := h.1 b (List.mem_of_getElem? hbk) hs;omega
    ·rw [decide_eq_false hh, if_neg (by decide)];refine .some (.chk (i64_small (by omega)) (.some ⟨rfl, ?_, ?_, lowOn_step hbk h2 fun _ => by omega⟩))
     ·show n - b.wide = _; omega
     ·show 0 ≤ n - b.wide; omega
  ·rw [if_neg hs] at hst;rw [if_pos hs];refine .some (.chk (i64_small (by omega)) (.some ⟨rfl, ?_, h0, lowOn_step hbk h2 fun h => absurd h hs⟩))
   show n = _;omega
 ·rintro ⟨j, n⟩ hx ⟨h1, h0, h2⟩;simp only at hx h1 h2 h0;subst hx;unfold P_s9_Check_L6
  show Ok (if _ then _ else _) _;rw [if_neg (by omega)];rw [List.take_length] at h1 h2;refine .some (.some ?_)
  show 0 = fitErr bs i a;unfold fitErr;rw [if_pos ⟨h2, by omega⟩]
def ShOk (sh : List S_api_SfShelf) : Prop := ∀ (j : Nat) (a : S_api_SfShelf), sh[j]? = some a → 0 ≤ a.wide ∧ a.wide ≤ 2000
open Classical in
theorem r9_L4_eq {cl : List Str} {sh : List S_api_SfShelf} {bs : List S_api_SfBook} (hs : sh.length ≤ 1000) (hsh : ShOk sh) (hb : Wides bs) (hl : bs.length ≤ 1000) :
  iter (P_r9_Check_L4 cl sh bs) 0 = some (scanX (errG 4 (errAt sh (fitErr bs))) sh.length) := by
 refine iter_scanI _ _ (fun k hk _ => ?_) (fun _ => ?_)
 ·unfold P_r9_Check_L4;obtain ⟨a, ha⟩ := get_some hk
  have hw := hsh k a ha;rw [if_pos (by omega), r9_Own_eq hl, andx_some', r9_fit_eq ha hw.1 hb hl, andx_some', chk_pos (i64_small (by omega))];unfold errG;rw [errAt_of ha];unfold fitErr
  by_cases h : fits bs k a
  ·rw [decide_eq_true h, if_pos h]; rfl
  ·rw [decide_eq_false h, if_neg h]; rfl
 ·unfold P_r9_Check_L4;rw [if_neg (by omega)]
theorem s9_L5_eq {sh : List S_api_SfShelf} {bs : List S_api_SfBook} (hs : sh.length ≤ 1000) (hsh : ShOk sh) (hb : Wides bs) (hl : bs.length ≤ 1000) :
  iter (P_s9_Check_L5 sh bs) 0 = some (scanX (errF (errAt sh (fitErr bs))) sh.length) := by
 refine iter_scanI _ _ (fun k hk _ => ?_) (fun _ => ?_)
 ·unfold P_s9_Check_L5;obtain ⟨a, ha⟩ := get_some hk
  have hw := hsh k a ha;rw [if_pos (by omega), el_at ha, s9_L6_eq (sh := sh) hw hb hl, andx_some', body_err (by omega)];unfold errF;rw [errAt_of ha]
 ·unfold P_s9_Check_L5;rw [if_neg (by omega)]
noncomputable def roomE (cl : List Str) (sh : List S_api_SfShelf) (bs : List S_api_SfBook) : Option (Int × Int × Int) :=
 if 1 ≤ cl.length ∧ cl.length ≤ 6 then
  match firstE (errAt cl (clErr cl)) cl.length with
  | some p => some (1, p.1, p.2)
  | none =>
   if 1 ≤ sh.length ∧ sh.length ≤ 4 then
    match firstE (errAt sh fun _ => shErr) sh.length with
    | some p => some (2, p.1, p.2)
    | none =>
     if bs.length ≤ 10 then
      match firstE (errAt bs (bkErr cl.length sh.length bs)) bs.length with
      | some p => some (3, p.1, p.2)
      | none =>
       match firstE (errAt sh (fitErr bs)) sh.length with
       | some p => some (4, p.1, p.2)
       | none => some (0, 0, 0)
     else some (3, 0, 3)
   else some (2, 0, 3)
 else some (1, 0, 3)
theorem shErr_zero {a : S_api_SfShelf} (h : shErr a = 0) : shOk a := by
 unfold shErr at h;split at h
 ·assumption
 ·cases h
theorem bkErr_zero {ncl nsh : Nat} {bs : List S_api_SfBook} {i : Nat} {b : S_api_SfBook} (h : bkErr ncl nsh bs i b = 0) : bkRange b.wide b.high b.heavy ∧ btw 0 ((nsh : Int) - 1) b.shelf ∧ ¬ below bs i b ∧ ¬ twice (bs.take i) b.mark_class b.mark_number b.mark_suffix ∧ mkErr ncl b.mark_class b.mark_number b.mark_suffix = 0 := by
 unfold bkErr at h;split at h
 ·rename_i h0
  split at h
  ·rename_i h1
   split at h
   ·cases h
   ·rename_i h2
    unfold bkE0 bkErr1 at h0;split at h0
    ·rename_i h3
     split at h0
     ·rename_i h4
      split at h0
      ·cases h0
      ·rename_i h5
       exact ⟨h4, h1, h2, h5, h3⟩
     ·cases h0
    ·rename_i h3; exact absurd h0 h3
  ·cases h
 ·rename_i h0; exact absurd h h0
theorem shOk_all {sh : List S_api_SfShelf} (h : ∀ j, j < sh.length → errAt sh (fun _ => shErr) j = 0) {j : Nat} {a : S_api_SfShelf} (ha : sh[j]? = some a) : shOk a := by
 have := h j (List.getElem?_eq_some_iff.1 ha).1;rw [errAt_of ha] at this;exact shErr_zero this
theorem bk_all {ncl nsh : Nat} {bs : List S_api_SfBook} (h : ∀ j, j < bs.length → errAt bs (bkErr ncl nsh bs) j = 0) {j : Nat} {b : S_api_SfBook} (hb : bs[j]? = some b) : bkErr ncl nsh bs j b = 0 := by
 have := h j (List.getElem?_eq_some_iff.1 hb).1
 rwa [errAt_of hb] at this
theorem wides_all {ncl nsh : Nat} {bs : List S_api_SfBook} (h : ∀ j, j < bs.length → errAt bs (bkErr ncl nsh bs) j = 0) : Wides bs := fun b hb => by
 obtain ⟨j, hj⟩ := List.getElem?_of_mem hb;exact (bkErr_zero (bk_all h hj)).1.1
open Classical in
theorem r9_Check_eq (cl : List Str) (sh : List S_api_SfShelf) (bs : List S_api_SfBook) : P_r9_Check cl sh bs = roomE cl sh bs := by
 unfold P_r9_Check roomE;rw [r9_in_eq, andx_some']
 by_cases h1 : 1 ≤ cl.length ∧ cl.length ≤ 6
 ·rw [if_pos h1, decide_eq_true (by omega), if_pos rfl, r9_L1_eq (by omega), loopR]
  rcases firstE_cases (errAt cl (clErr cl)) cl.length with ⟨e, _, _⟩ | ⟨_, _, _, e, _⟩
  rotate_left
  ·rw [e]
  rw [e]
  show andx _ _ = _;rw [r9_in_eq, andx_some']
  by_cases h2 : 1 ≤ sh.length ∧ sh.length ≤ 4
  ·rw [if_pos h2, decide_eq_true (by omega), if_pos rfl, r9_L2_eq (by omega), loopR]
   rcases firstE_cases (errAt sh fun _ => shErr) sh.length with ⟨e, _, hsh⟩ | ⟨_, _, _, e, _⟩
   rotate_left
   ·rw [e]
   rw [e]
   show (if _ then _ else _) = _
   by_cases h3 : bs.length ≤ 10
   ·rw [if_neg (by omega), r9_L3_eq (by omega) (by omega) (by omega), loopR]
    show _ = if _ then _ else _;rw [if_pos h3]
    rcases firstE_cases (errAt bs (bkErr cl.length sh.length bs)) bs.length with ⟨e, _, hbs⟩ | ⟨_, _, _, e, _⟩
    rotate_left
    ·rw [e]
    rw [e]
    show seqx _ _ = _;rw [r9_L4_eq (by omega) (fun j a ha => by have := (shOk_all hsh ha).2.1; unfold btw at this; omega) (wides_all hbs) (by omega), loopR] <;> rfl
   ·rw [if_pos (by omega)]
    show _ = if _ then _ else _;rw [if_neg h3]
  ·rw [if_neg h2, decide_eq_false (by omega), if_neg (by decide)]
 ·rw [if_neg h1, decide_eq_false (by omega), if_neg (by decide)]
open Classical in
theorem s9_Check_eq (cl : List Str) (sh : List S_api_SfShelf) (bs : List S_api_SfBook) : P_s9_Check cl sh bs = roomE cl sh bs := by
 unfold P_s9_Check roomE;rw [s9_out1, andx_some']
 by_cases h1 : 1 ≤ cl.length ∧ cl.length ≤ 6
 ·rw [if_pos h1, decide_eq_false (not_not_intro (show btw 1 6 (cl.length : Int) from ⟨by omega, by omega⟩)), if_neg (by decide), s9_L1_eq (by omega), loopS (c := 1) (fun _ => rfl)]
  rcases firstE_cases (errAt cl (clErr cl)) cl.length with ⟨e, _, _⟩ | ⟨_, _, _, e, _⟩
  rotate_left
  ·rw [e]
  rw [e]
  show andx _ _ = _;rw [s9_out1, andx_some']
  by_cases h2 : 1 ≤ sh.length ∧ sh.length ≤ 4
  ·rw [if_pos h2, decide_eq_false (not_not_intro (show btw 1 4 (sh.length : Int) from ⟨by omega, by omega⟩)), if_neg (by decide), s9_L3_eq (by omega), loopS (c := 2) (fun _ => rfl)]
   rcases firstE_cases (errAt sh fun _ => shErr) sh.length with ⟨e, _, hsh⟩ | ⟨_, _, _, e, _⟩
   rotate_left
   ·rw [e]
   rw [e]
   show (if _ then _ else _) = _
   by_cases h3 : bs.length ≤ 10
   ·rw [if_neg (by omega), s9_L4_eq (by omega) (by omega) (by omega), loopS (c := 3) (fun _ => rfl)]
    show _ = if _ then _ else _;rw [if_pos h3]
    rcases firstE_cases (errAt bs (bkErr cl.length sh.length bs)) bs.length with ⟨e, _, hbs⟩ | ⟨_, _, _, e, _⟩
    rotate_left
    ·rw [e]
    rw [e]
    show andx _ _ = _;rw [s9_L5_eq (by omega) (fun j a ha => by have := (shOk_all hsh ha).2.1; unfold btw at this; omega) (wides_all hbs) (by omega), loopS (c := 4) (fun _ => rfl)] <;> rfl
   ·rw [if_pos (by omega)]
    show _ = if _ then _ else _;rw [if_neg h3]
  ·rw [if_neg h2, decide_eq_true (show ¬ btw 1 4 (sh.length : Int) from fun h => h2 (by unfold btw at h; omega)), if_pos rfl]
 ·rw [if_neg h1, decide_eq_true (show ¬ btw 1 6 (cl.length : Int) from fun h => h1 (by unfold btw at h; omega)), if_pos rfl]
end Go.Am
end
section
namespace Go.Am
set_option linter.unusedVariables false
set_option linter.unusedSimpArgs false
structure Fine (cl : List Str) (sh : List S_api_SfShelf) (bs : List S_api_SfBook) : Prop where
 cl1 : 1 ≤ cl.length ∧ cl.length ≤ 6
 cl2 : ∀ j, j < cl.length → errAt cl (clErr cl) j = 0
 sh1 : 1 ≤ sh.length ∧ sh.length ≤ 4
 sh2 : ∀ j, j < sh.length → errAt sh (fun _ => shErr) j = 0
 bs1 : bs.length ≤ 10
 bs2 : ∀ j, j < bs.length → errAt bs (bkErr cl.length sh.length bs) j = 0
 fit : ∀ j, j < sh.length → errAt sh (fitErr bs) j = 0
theorem roomE_ok (cl : List Str) (sh : List S_api_SfShelf) (bs : List S_api_SfBook) : ∃ c i e, roomE cl sh bs = some (c, i, e) ∧ (e = 0 ↔ Fine cl sh bs) := by
 unfold roomE
 by_cases h1 : 1 ≤ cl.length ∧ cl.length ≤ 6
 ·rw [if_pos h1]
  rcases firstE_cases (errAt cl (clErr cl)) cl.length with ⟨e, _, h2⟩ | ⟨k, hk, hne, e, _⟩
  rotate_left
  ·rw [e];exact ⟨_, _, _, rfl, fun h => absurd h hne, fun h => absurd (h.cl2 k hk) hne⟩
  rw [e];dsimp only
  by_cases h3 : 1 ≤ sh.length ∧ sh.length ≤ 4
  ·rw [if_pos h3]
   rcases firstE_cases (errAt sh fun _ => shErr) sh.length with ⟨e, _, h4⟩ | ⟨k, hk, hne, e, _⟩
   rotate_left
   ·rw [e];exact ⟨_, _, _, rfl, fun h => absurd h hne, fun h => absurd (h.sh2 k hk) hne⟩
   rw [e];dsimp only
   by_cases h5 : bs.length ≤ 10
   ·rw [if_pos h5]
    rcases firstE_cases (errAt bs (bkErr cl.length sh.length bs)) bs.length with ⟨e, _, h6⟩ | ⟨k, hk, hne, e, _⟩
    rotate_left
    ·rw [e];exact ⟨_, _, _, rfl, fun h => absurd h hne, fun h => absurd (h.bs2 k hk) hne⟩
    rw [e]
    rcases firstE_cases (errAt sh (fitErr bs)) sh.length with ⟨e, _, h7⟩ | ⟨k, hk, hne, e, _⟩
    rotate_left
    ·rw [e];exact ⟨_, _, _, rfl, fun h => absurd h hne, fun h => absurd (h.fit k hk) hne⟩
    rw [e];exact ⟨_, _, _, rfl, fun _ => ⟨h1, h2, h3, h4, h5, h6, h7⟩, fun _ => rfl⟩
   ·rw [if_neg h5];exact ⟨_, _, _, rfl, fun h => absurd h (by decide), fun h => absurd h.bs1 h5⟩
  ·rw [if_neg h3];exact ⟨_, _, _, rfl, fun h => absurd h (by decide), fun h => absurd h.sh1 h3⟩
 ·rw [if_neg h1];exact ⟨_, _, _, rfl, fun h => absurd h (by decide), fun h => absurd h.cl1 h1⟩
section
variable {cl : List Str} {sh : List S_api_SfShelf} {bs : List S_api_SfBook}
theorem Fine.shelf (h : Fine cl sh bs) {j : Nat} {a : S_api_SfShelf} (ha : sh[j]? = some a) : shOk a := shOk_all h.sh2 ha
theorem Fine.book (h : Fine cl sh bs) {j : Nat} {b : S_api_SfBook} (hb : bs[j]? = some b) : 0 ≤ b.shelf ∧ b.shelf < sh.length := by
 have := (bkErr_zero (bk_all h.bs2 hb)).2.1;unfold btw at this; omega
theorem Fine.fits (h : Fine cl sh bs) {j : Nat} {a : S_api_SfShelf} (ha : sh[j]? = some a) : fits bs j a := by
 have := h.fit j (List.getElem?_eq_some_iff.1 ha).1;rw [errAt_of ha] at this;unfold fitErr at this;split at this
 ·assumption
 ·cases this
open Classical in
theorem law9_valid_eq : P_law9_valid cl sh bs = some (decide (Fine cl sh bs)) := by
 obtain ⟨c, i, e, he, hf⟩ := roomE_ok cl sh bs;unfold P_law9_valid;rw [r9_Check_eq, he]
 show some _ = some _
 congr 1
 exact decide_eq_decide.2 hf
end
end Go.Am
end
section
namespace Go.Am
set_option linter.unusedVariables false
set_option linter.unusedSimpArgs false
theorem cmpS_neg : ∀ a b : Str, cmpS b a = - cmpS a b
 | [], [] => by rfl
 | [], _ :: _ => by rfl
 | _ :: _, [] => by rfl
 | a :: la, b :: bs => by
  have := cmpS_neg la bs;simp only [cmpS, Lib.compareBytes, UInt8.lt_iff_toNat_lt] at this ⊢
  by_cases h1 : a.toNat < b.toNat
  ·rw [if_pos h1, if_neg (by omega), if_pos h1]; rfl
  ·by_cases h2 : b.toNat < a.toNat
   ·rw [if_pos h2, if_neg h1, if_pos h2]
   ·rw [if_neg h2, if_neg h1, if_neg h1, if_neg h2]; exact this
theorem cmpS_zero : ∀ a b : Str, cmpS a b = 0 ↔ a = b
 | [], [] => by simp [cmpS, Lib.compareBytes]
 | [], _ :: _ => by simp [cmpS, Lib.compareBytes]
 | _ :: _, [] => by simp [cmpS, Lib.compareBytes]
 | a :: la, b :: bs => by
  have := cmpS_zero la bs;simp only [cmpS, Lib.compareBytes, UInt8.lt_iff_toNat_lt] at this ⊢
  by_cases h1 : a.toNat < b.toNat
  ·rw [if_pos h1];exact ⟨fun h => by omega, fun h => by cases h; omega⟩
  ·by_cases h2 : b.toNat < a.toNat
   ·rw [if_neg h1, if_pos h2];exact ⟨fun h => by omega, fun h => by cases h; omega⟩
   ·rw [if_neg h1, if_neg h2, this]
    have : a = b := UInt8.toNat_inj.1 (by omega);subst this;simp
theorem cmpS_trans : ∀ a b c : Str, cmpS a b < 0 → cmpS b c < 0 → cmpS a c < 0
 | [], [], _, h, _ => by simp [cmpS, Lib.compareBytes] at h
 | [], _ :: _, [], _, h => by simp [cmpS, Lib.compareBytes] at h
 | [], _ :: _, _ :: _, _, _ => by simp [cmpS, Lib.compareBytes]
 | _ :: _, [], _, h, _ => by simp [cmpS, Lib.compareBytes] at h
 | _ :: _, _ :: _, [], _, h => by simp [cmpS, Lib.compareBytes] at h
 | a :: la, b :: bs, c :: cs, h1, h2 => by
  have ih := cmpS_trans la bs cs;simp only [cmpS, Lib.compareBytes, UInt8.lt_iff_toNat_lt] at ih h1 h2 ⊢
  by_cases h3 : a.toNat < b.toNat
  ·by_cases h4 : b.toNat < c.toNat
   ·rw [if_pos (by omega)]; omega
   ·rw [if_neg h4] at h2
    by_cases h5 : c.toNat < b.toNat
    ·rw [if_pos h5] at h2; omega
    ·rw [if_pos (by omega)]; omega
  ·rw [if_neg h3] at h1
   by_cases h4 : b.toNat < a.toNat
   ·rw [if_pos h4] at h1; omega
   ·rw [if_neg h4] at h1
    by_cases h5 : b.toNat < c.toNat
    ·rw [if_pos (by omega)]; omega
    ·rw [if_neg h5] at h2
     by_cases h6 : c.toNat < b.toNat
     ·rw [if_pos h6] at h2; omega
     ·rw [if_neg h6] at h2;rw [if_neg (by omega), if_neg (by omega)];exact ih h1 h2
def fst4 (a b c d : Int) : Int := if ¬ a = 0 then a else if ¬ b = 0 then b else if ¬ c = 0 then c else d
def cmpM (c n : Int) (s : Str) (c' n' : Int) (s' : Str) : Int := fst4 (c - c') (n - n') ((s.length : Int) - s'.length) (cmpS s s')
def sgn (x : Int) : Int := if x < 0 then -1 else if x > 0 then 1 else 0
theorem cmpM_neg {c n : Int} {s : Str} {c' n' : Int} {s' : Str} : cmpM c' n' s' c n s = - cmpM c n s c' n' s' := by
 unfold cmpM fst4;rw [cmpS_neg s s']
 by_cases h1 : c - c' = 0
 ·rw [if_neg (not_not_intro (show c' - c = 0 by omega)), if_neg (not_not_intro h1)]
  by_cases h2 : n - n' = 0
  ·rw [if_neg (not_not_intro (show n' - n = 0 by omega)), if_neg (not_not_intro h2)]
   by_cases h3 : (s.length : Int) - s'.length = 0
   ·rw [if_neg (not_not_intro (show (s'.length : Int) - s.length = 0 by omega)), if_neg (not_not_intro h3)]
   ·rw [if_pos (show ¬ (s'.length : Int) - s.length = 0 by omega), if_pos h3]; omega
  ·rw [if_pos (show ¬ n' - n = 0 by omega), if_pos h2]; omega
 ·rw [if_pos (show ¬ c' - c = 0 by omega), if_pos h1]; omega
theorem cmpM_zero {c n : Int} {s : Str} {c' n' : Int} {s' : Str} : cmpM c n s c' n' s' = 0 ↔ c = c' ∧ n = n' ∧ s = s' := by
 unfold cmpM fst4
 by_cases h1 : c - c' = 0
 ·rw [if_neg (not_not_intro h1)]
  by_cases h2 : n - n' = 0
  ·rw [if_neg (not_not_intro h2)]
   by_cases h3 : (s.length : Int) - s'.length = 0
   ·rw [if_neg (not_not_intro h3), cmpS_zero];exact ⟨fun h => ⟨by omega, by omega, h⟩, fun h => h.2.2⟩
   ·rw [if_pos h3];exact ⟨fun h => absurd h h3, fun h => by rw [h.2.2] at h3; omega⟩
  ·rw [if_pos h2];exact ⟨fun h => absurd h h2, fun h => by omega⟩
 ·rw [if_pos h1];exact ⟨fun h => absurd h h1, fun h => by omega⟩
theorem cmpM_lt {c n : Int} {s : Str} {c' n' : Int} {s' : Str} : cmpM c n s c' n' s' < 0 ↔ c < c' ∨ (c = c' ∧ (n < n' ∨ (n = n' ∧ (s.length < s'.length ∨ (s.length = s'.length ∧ cmpS s s' < 0))))) := by
 unfold cmpM fst4
 by_cases h1 : c - c' = 0
 ·rw [if_neg (not_not_intro h1)]
  by_cases h2 : n - n' = 0
  ·rw [if_neg (not_not_intro h2)]
   by_cases h3 : (s.length : Int) - s'.length = 0
   ·rw [if_neg (not_not_intro h3)]; omega
   ·rw [if_pos h3]; omega
  ·rw [if_pos h2]; omega
 ·rw [if_pos h1]; omega
theorem cmpM_trans {a b : Int} {s : Str} {a' b' : Int} {s' : Str} {a'' b'' : Int} {s'' : Str} (h : cmpM a b s a' b' s' < 0) (h' : cmpM a' b' s' a'' b'' s'' < 0) : cmpM a b s a'' b'' s'' < 0 := by
 rw [cmpM_lt] at h h' ⊢
 have := cmpS_trans s s' s'';omega
theorem sgn_lt {x : Int} : sgn x = -1 ↔ x < 0 := by unfold sgn; split <;> (try split) <;> omega
theorem sgn_zero {x : Int} : sgn x = 0 ↔ x = 0 := by unfold sgn; split <;> (try split) <;> omega
theorem sgn_neg {x : Int} : sgn (-x) = - sgn x := by unfold sgn; repeat' split <;> omega
theorem sgn_rng (x : Int) : -1 ≤ sgn x ∧ sgn x ≤ 1 := by unfold sgn; repeat' split <;> omega
theorem cmpOr_eq (a b c d : Int) : P_cmpOr [a, b, c, d] = some (fst4 a b c d) := by
 unfold P_cmpOr;rw [iter_scanI (fun i => if ([a, b, c, d] : List Int).getD i 0 = 0 then none else some (([a, b, c, d] : List Int).getD i 0)) 4, seqx_scan]
 ·unfold fst4;rw [show List.range 4 = [0, 1, 2, 3] from rfl]
  by_cases h1 : a = 0 <;> by_cases h2 : b = 0 <;> by_cases h3 : c = 0 <;> by_cases h4 : d = 0 <;> simp [h1, h2, h3, h4]
 ·intro k hk _;unfold P_cmpOr_L1;rw [if_pos (by simp; omega)];obtain ⟨x, hx⟩ := get_some (l := [a, b, c, d]) (k := k) hk;rw [el_at hx, chk_pos (i64_small (by omega))]
  have e : ([a, b, c, d] : List Int).getD k 0 = x := by simp [List.getD, hx]
  simp only [e]
  by_cases h : x = 0
  ·rw [if_neg (not_not_intro h), if_pos h]; rfl
  ·rw [if_pos h, if_neg h]; rfl
 ·intro _;unfold P_cmpOr_L1;rw [if_neg (by simp)]
theorem cmpInt_eq (x : Int) : P_cmpInt x 0 = some (sgn x) := by
 unfold P_cmpInt sgn;rw [if_neg (not_not_intro rfl), if_neg (not_not_intro rfl)]
 by_cases h1 : x < 0
 ·rw [if_pos h1, if_pos h1]
 ·rw [if_neg h1, if_neg h1]
  by_cases h2 : x > 0
  ·rw [if_pos h2, if_pos h2]
  ·rw [if_neg h2, if_neg h2]
theorem markOk_bound {ncl : Nat} {c n : Int} {s : Str} (h : mkErr ncl c n s = 0) : (0 ≤ c ∧ c < ncl) ∧ (1 ≤ n ∧ n ≤ 9999) ∧ s.length ≤ 2 ∧ isLow s := by
 unfold mkErr at h;split at h
 ·rename_i h1
  split at h
  ·rename_i h2
   split at h
   ·rename_i h3
    split at h
    ·rename_i h4
     unfold btw at h1 h2;exact ⟨by omega, by omega, h3, h4⟩
    ·cases h
   ·cases h
  ·cases h
 ·cases h
theorem s9_compare_eq {ncl : Nat} {c n : Int} {s : Str} {c' n' : Int} {s' : Str} (hn : ncl ≤ 1000) (h : mkErr ncl c n s = 0) (h' : mkErr ncl c' n' s' = 0) : P_s9_compare c n s c' n' s' = some (cmpM c n s c' n' s') := by
 have b := markOk_bound h
 have b' := markOk_bound h';unfold P_s9_compare
 by_cases e : c = c' ∧ n = n' ∧ s = s'
 ·rw [if_pos e, cmpM_zero.2 e]
 ·rw [if_neg e, chk_pos (i64_small (by omega)), chk_pos (i64_small (by omega)), chk_pos (i64_small (by omega)), cmpOr_eq];rfl
theorem el_at0 {α β : Type} {l : List α} {a : α} {g : α → Option β} (h : l[0]? = some a) : el l 0 g = g a := el_at (k := 0) h
theorem el_at1 {α β : Type} {l : List α} {a : α} {g : α → Option β} (h : l[1]? = some a) : el l 1 g = g a := el_at (k := 1) h
noncomputable def roomN (cl : List Str) (sh : List S_api_SfShelf) (bs : List S_api_SfBook) : Int := match roomE cl sh bs with | some (_, _, e) => e | none => 0
section
variable {cl : List Str} {sh : List S_api_SfShelf} {bs : List S_api_SfBook}
theorem roomN_zero : roomN cl sh bs = 0 ↔ Fine cl sh bs := by
 obtain ⟨c, i, e, he, hf⟩ := roomE_ok cl sh bs;unfold roomN;rw [he]; exact hf
theorem s9_open_eq : P_s9_open cl sh bs = some (roomN cl sh bs) := by
 obtain ⟨c, i, e, he, hf⟩ := roomE_ok cl sh bs;unfold P_s9_open roomN;rw [s9_Check_eq, he]; rfl
noncomputable def two (cl : List Str) (sh : List S_api_SfShelf) (bs : List S_api_SfBook) (c n : Int) (s : Str) (c' n' : Int) (s' : Str) : Int :=
 if roomN cl sh bs = 0 then (if mkErr cl.length c n s = 0 then mkErr cl.length c' n' s' else mkErr cl.length c n s) else roomN cl sh bs
noncomputable def befR (cl : List Str) (sh : List S_api_SfShelf) (bs : List S_api_SfBook) (c n : Int) (s : Str) (c' n' : Int) (s' : Str) : Int × Int :=
 if two cl sh bs c n s c' n' s' = 0 then (sgn (cmpM c n s c' n' s'), 0) else (0, two cl sh bs c n s c' n' s')
theorem two_zero {c n : Int} {s : Str} {c' n' : Int} {s' : Str} : two cl sh bs c n s c' n' s' = 0 ↔ Fine cl sh bs ∧ mkErr cl.length c n s = 0 ∧ mkErr cl.length c' n' s' = 0 := by
 unfold two
 by_cases h : roomN cl sh bs = 0
 ·rw [if_pos h]
  have hf := roomN_zero.1 h
  by_cases h1 : mkErr cl.length c n s = 0
  ·rw [if_pos h1]; exact ⟨fun h2 => ⟨hf, h1, h2⟩, fun h2 => h2.2.2⟩
  ·rw [if_neg h1]; exact ⟨fun h2 => absurd h2 h1, fun h2 => h2.2.1⟩
 ·rw [if_neg h];exact ⟨fun h2 => absurd h2 h, fun h2 => absurd (roomN_zero.2 h2.1) h⟩
theorem s9_Before_eq {c n : Int} {s : Str} {c' n' : Int} {s' : Str} : P_s9_Before cl sh bs c n s c' n' s' = some (befR cl sh bs c n s c' n' s') := by
 unfold P_s9_Before;rw [s9_open_eq, andx_some']
 have hlen : roomN cl sh bs = 0 → cl.length ≤ 1000 := fun h => by have := (roomN_zero.1 h).cl1; omega
 have hit : iter (P_s9_Before_L1 cl sh bs c n s c' n' s') (roomN cl sh bs, 0) = some (two cl sh bs c n s c' n' s') := by
  have b0 : P_s9_Before_L1 cl sh bs c n s c' n' s' (roomN cl sh bs, 0) = some (.ag ((if roomN cl sh bs = 0 then mkErr cl.length c n s else roomN cl sh bs), 1)) := by
   unfold P_s9_Before_L1
   show (if _ then _ else _) = _;rw [if_pos (by simp)];rw [el_at0 rfl]
   by_cases h : roomN cl sh bs = 0
   ·rw [if_pos h, s9_mark_eq (hlen h), if_pos h]; exact chk_pos (i64_small (by omega))
   ·rw [if_neg h, if_neg h]; exact chk_pos (i64_small (by omega))
  have b1 : P_s9_Before_L1 cl sh bs c n s c' n' s' ((if roomN cl sh bs = 0 then mkErr cl.length c n s else roomN cl sh bs), 1) = some (.ag (two cl sh bs c n s c' n' s', 2)) := by
   unfold P_s9_Before_L1 two
   show (if _ then _ else _) = _;rw [if_pos (by simp)];rw [el_at1 rfl]
   by_cases h : roomN cl sh bs = 0
   ·rw [if_pos h, if_pos h]
    by_cases h1 : mkErr cl.length c n s = 0
    ·rw [if_pos h1, if_pos h1, s9_mark_eq (hlen h)]; exact chk_pos (i64_small (by omega))
    ·rw [if_neg h1, if_neg h1]; exact chk_pos (i64_small (by omega))
   ·rw [if_neg h, if_neg h, if_neg h]; exact chk_pos (i64_small (by omega))
  have b2 : P_s9_Before_L1 cl sh bs c n s c' n' s' (two cl sh bs c n s c' n' s', 2) = some (.dn (two cl sh bs c n s c' n' s')) := by
   unfold P_s9_Before_L1
   show (if _ then _ else _) = _;rw [if_neg (by simp)]
  exact iter_eq.2 (.inl ⟨_, b0, iter_eq.2 (.inl ⟨_, b1, iter_eq.2 (.inr b2)⟩)⟩)
 rw [hit, andx_some'];unfold befR
 by_cases h : two cl sh bs c n s c' n' s' = 0
 ·obtain ⟨h1, h2, h3⟩ := two_zero.1 h;rw [if_neg (not_not_intro h), if_pos h, s9_compare_eq (by have := h1.cl1; omega) h2 h3, andx_some', cmpInt_eq]; rfl
 ·rw [if_pos h, if_neg h]
end
theorem two_swap {cl : List Str} {sh : List S_api_SfShelf} {bs : List S_api_SfBook} {c n : Int} {s : Str} {c' n' : Int} {s' : Str} : two cl sh bs c n s c' n' s' = 0 ↔ two cl sh bs c' n' s' c n s = 0 := by
 rw [two_zero, two_zero];exact ⟨fun h => ⟨h.1, h.2.2, h.2.1⟩, fun h => ⟨h.1, h.2.2, h.2.1⟩⟩
open Classical in
theorem ShelfOrder_true (cl : List Str) (sh : List S_api_SfShelf) (bs : List S_api_SfBook) (c0 n0 : Int) (s0 : Str) (c1 n1 : Int) (s1 : Str) (c2 n2 : Int) (s2 : Str) :
  P_law_ShelfOrder cl sh bs c0 n0 s0 c1 n1 s1 c2 n2 s2 = some true := by
 unfold P_law_ShelfOrder;simp only [s9_Before_eq, andx_some', law9_valid_eq]
 by_cases h01 : two cl sh bs c0 n0 s0 c1 n1 s1 = 0
 ·obtain ⟨hf, m0, m1⟩ := two_zero.1 h01
  have e01 : befR cl sh bs c0 n0 s0 c1 n1 s1 = (sgn (cmpM c0 n0 s0 c1 n1 s1), 0) := by unfold befR; rw [if_pos h01]
  have e10 : befR cl sh bs c1 n1 s1 c0 n0 s0 = (-sgn (cmpM c0 n0 s0 c1 n1 s1), 0) := by unfold befR; rw [if_pos (two_swap.1 h01), cmpM_neg, sgn_neg]
  have hr := sgn_rng (cmpM c0 n0 s0 c1 n1 s1)
  have hz : decide (sgn (cmpM c0 n0 s0 c1 n1 s1) = 0) = decide (c0 = c1 ∧ n0 = n1 ∧ s0 = s1) := decide_eq_decide.2 (sgn_zero.trans cmpM_zero);rw [e01, e10];dsimp only;rw [decide_eq_true hf, if_pos rfl, if_neg (not_not_intro rfl), decide_eq_false (not_not_intro rfl), andx_some', if_neg (by decide)]
  show seqx _ _ = _;generalize hx : sgn (cmpM c0 n0 s0 c1 n1 s1) = x at *
  show seqx (andx (if ¬ ((0 : Int) = 0) then _ else _) _) _ = _;rw [if_neg (not_not_intro rfl), chk_pos (i64_small (by omega)), if_neg (show ¬ ¬ x = - -x by omega), if_neg (not_not_intro hz), if_neg (show ¬ x < -1 by omega), decide_eq_false (show ¬ x > 1 by omega), andx_some', if_neg (by decide)]
  show andx _ _ = _
  by_cases h12 : two cl sh bs c1 n1 s1 c2 n2 s2 = 0
  ·obtain ⟨_, _, m2⟩ := two_zero.1 h12
   have h02 : two cl sh bs c0 n0 s0 c2 n2 s2 = 0 := two_zero.2 ⟨hf, m0, m2⟩
   have e12 : befR cl sh bs c1 n1 s1 c2 n2 s2 = (sgn (cmpM c1 n1 s1 c2 n2 s2), 0) := by unfold befR; rw [if_pos h12]
   have e02 : befR cl sh bs c0 n0 s0 c2 n2 s2 = (sgn (cmpM c0 n0 s0 c2 n2 s2), 0) := by unfold befR; rw [if_pos h02]
   rw [e12, e02];dsimp only;rw [if_neg (not_not_intro rfl), if_pos rfl]
   by_cases a1 : x = -1
   ·rw [if_neg (not_not_intro a1)]
    by_cases a2 : sgn (cmpM c1 n1 s1 c2 n2 s2) = -1
    ·rw [if_neg (not_not_intro a2), if_pos (sgn_lt.2 (cmpM_trans (sgn_lt.1 (hx.trans a1)) (sgn_lt.1 a2)))]; rfl
    ·rw [if_pos a2]; rfl
   ·rw [if_pos a1]; rfl
  ·have e12 : befR cl sh bs c1 n1 s1 c2 n2 s2 = (0, two cl sh bs c1 n1 s1 c2 n2 s2) := by unfold befR; rw [if_neg h12]
   rw [e12];dsimp only;rw [if_pos h12]; rfl
 ·have h10 : ¬ two cl sh bs c1 n1 s1 c0 n0 s0 = 0 := fun h => h01 (two_swap.1 h)
  have e01 : befR cl sh bs c0 n0 s0 c1 n1 s1 = (0, two cl sh bs c0 n0 s0 c1 n1 s1) := by unfold befR; rw [if_neg h01]
  have e10 : befR cl sh bs c1 n1 s1 c0 n0 s0 = (0, two cl sh bs c1 n1 s1 c0 n0 s0) := by unfold befR; rw [if_neg h10]
  rw [e01, e10];dsimp only
  have : (if decide (Fine cl sh bs) = true then some (decide (¬ two cl sh bs c0 n0 s0 c1 n1 s1 = 0)) else some true) = some true := by
   rw [decide_eq_true h01]; split <;> rfl
  rw [this, andx_some', if_pos rfl, if_pos h01, if_pos h10, if_pos rfl, if_pos rfl]; rfl
end Go.Am
end
