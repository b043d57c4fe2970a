/- Part 4. -/
import Derived.Test.YthckcbfijdambaaGreatP3
import Derived.Test.YthckcbfijdambaaGreatP2
import Derived.ChangeArms
import Derived.ChangeSlices
import Derived.OpenShut
import Derived.Test.YthckcbfijdambaaGreatRows
import Derived.ProofKit
section
namespace Go.Am
set_option linter.unusedVariables false
noncomputable def P_c_wide_L1 (x_CpCase_Book_Signed : Int) (x_CpCase_Book_Gatherings : List Gat) (x_CpCase_Items : List Item) (x_leaves : List Leaf) (x_mates : List Int) : (Int × Int) → (List Int) → Option (Stp (Int × Int) (Int × Int)) := fun (s_Lo, s_Hi) t =>
 andx (P_c_faults x_CpCase_Book_Signed x_CpCase_Book_Gatherings x_CpCase_Items x_leaves x_mates t) fun (y24, y24_2, y24_3, y24_4, y24_5, y24_6, y24_7) =>
  some (Stp.ag ((min s_Lo y24_7), (max s_Hi y24_7)))
noncomputable def P_c_wide (x_CpCase_Book_Signed : Int) (x_CpCase_Book_Gatherings : List Gat) (x_CpCase_Items : List Item) (x_leaves : List Leaf) (x_mates : List Int) : Option (Int × Int) :=
  chk (I64 (2 * (x_CpCase_Items.length : Int))) (
    chk (I64 ((x_leaves.length : Int) + (2 * (x_CpCase_Items.length : Int)))) (
      andx (
        chk (x_CpCase_Items.length ≤ 120 ∧ ∀ x ∈ x_CpCase_Items, x.could.l.length ≤ 4) (
          seqx (foldx (P_c_wide_L1 x_CpCase_Book_Signed x_CpCase_Book_Gatherings x_CpCase_Items x_leaves x_mates) (truthsOf x_CpCase_Items) (((x_leaves.length : Int) + (2 * (x_CpCase_Items.length : Int))), 0)) fun (s_Lo, s_Hi) =>
            some (s_Lo, s_Hi))) fun (s_Lo, s_Hi) =>
        some (s_Lo, s_Hi)))
noncomputable def P_c_loose_L1 (x_mates : List Int) (y10 : Int → Int) : (Int × (List Int)) → Option (Stp (Int × (List Int)) (List Int)) := fun (x16, l) =>
  if x16 < (x_mates.length : Int) then
    andx (
      el x_mates x16 fun a19 =>
      andx (
        if (y10 x16) > 0 then
          if a19 ≥ 0 then
            some (decide ((y10 a19) = 0))
          else
            some false
        else
          some false) fun x34 =>
        if x34 = true then
          chk (l.length + [x16].length < 1000000000) (
            some (l ++ [x16]))
        else
          some l) fun l_2 =>
      chk (I64 (x16 + 1)) (
        some (Stp.ag ((x16 + 1), l_2)))
  else
    some (Stp.dn l)
noncomputable def P_c_loose (x_CpCase_Book_Signed : Int) (x_CpCase_Book_Gatherings : List Gat) (x_CpCase_Items : List Item) (x_leaves : List Leaf) (x_mates : List Int) (t : List Int) : Option (List Int) :=
  andx (P_c_there x_CpCase_Book_Signed x_CpCase_Book_Gatherings x_CpCase_Items x_leaves x_mates t) fun y10 =>
    andx (
      iter (P_c_loose_L1 x_mates y10) (0, [])) fun l =>
      some l
noncomputable def P_c_open_L2 (x44 : Int) (a47 : Item) : Int → Option (Stp Int (Ex Unit (Stp Int (Ex Unit (Sum (Int × Int × Int) (Int × (GS encL) × (List Int) × Int × Int × Int)))))) := fun x66 =>
  if x66 < (a47.could.l.length : Int) then
    seqx (
      el a47.could.l x66 fun a69 =>
      andx (
        if x66 > 0 then
          chk (I64 (x66 - 1)) (
            el a47.could.l (x66 - 1) fun a79 =>
            some (decide (a69 ≤ a79)))
        else
          some false) fun x82 =>
        if x82 = true then
          some (Ex.rt (Stp.dn (Ex.rt (Stp.dn (Ex.rt (Sum.inl (2, x44, 2)))))))
        else
          some (Ex.nx ())) fun _ =>
      chk (I64 (x66 + 1)) (
        some (Stp.ag (x66 + 1)))
  else
    some (Stp.dn (Ex.nx ()))
noncomputable def P_c_open_L1 (c_Items : List Item) (leaves31 : List Leaf) : Int → Option (Stp Int (Ex Unit (Sum (Int × Int × Int) (Int × (GS encL) × (List Int) × Int × Int × Int)))) := fun x44 =>
  if x44 < (c_Items.length : Int) then
    seqx (
      el c_Items x44 fun a47 =>
      if (a47.could.l.length : Int) > 4 then
        some (Ex.rt (Stp.dn (Ex.rt (Sum.inl (2, x44, 3)))))
      else
        chk (I64 ((leaves31.length : Int) - 1)) (
          andx (P_c_outside 0 ((leaves31.length : Int) - 1) a47.could.l) fun out61 =>
            if out61 = true then
              some (Ex.rt (Stp.dn (Ex.rt (Sum.inl (2, x44, 4)))))
            else
              iter (P_c_open_L2 x44 a47) 0)) fun _ =>
      chk (I64 (x44 + 1)) (
        some (Stp.ag (x44 + 1)))
  else
    some (Stp.dn (Ex.nx ()))
noncomputable def P_c_open_L3 (c_Items : List Item) : (Int × Int) → Option (Stp (Int × Int) (Ex Unit (Sum (Int × Int × Int) (Int × (GS encL) × (List Int) × Int × Int × Int)))) := fun (doubts, x89) =>
  if x89 < (c_Items.length : Int) then
    seqx (
      el c_Items x89 fun a92 =>
      andx (
        if (a92.could.l.length : Int) > 1 then
          chk (I64 (doubts + 1)) (
            some (doubts + 1))
        else
          some doubts) fun doubts_2 =>
        if doubts_2 > 3 then
          some (Ex.rt (Stp.dn (Ex.rt (Sum.inl (3, x89, 3)))))
        else
          some (Ex.nx doubts_2)) fun doubts_2 =>
      chk (I64 (x89 + 1)) (
        some (Stp.ag (doubts_2, (x89 + 1))))
  else
    some (Stp.dn (Ex.nx ()))
noncomputable def P_c_open_L4 (c_Book_Signed : Int) (c_Book_Gatherings : List Gat) (leaves31 : List Leaf) : (Int × (List Int)) → Option (Stp (Int × (List Int)) (List Int)) := fun (x110, b107_mates) =>
  if x110 < (leaves31.length : Int) then
    andx (
      andx (P_q_Mate c_Book_Signed c_Book_Gatherings x110) fun (mate117, e117) =>
        andx (
          if ¬ e117 = 0 then
            some (-1)
          else
            some mate117) fun m =>
          chk (b107_mates.length + [m].length < 1000000000) (
            some (b107_mates ++ [m]))) fun b107_mates_2 =>
      chk (I64 (x110 + 1)) (
        some (Stp.ag ((x110 + 1), b107_mates_2)))
  else
    some (Stp.dn b107_mates)
noncomputable def P_c_open (c_Book_Signed : Int) (c_Book_Gatherings : List Gat) (c_Items : List Item) : Option (Sum (Int × Int × Int) (Int × (GS encL) × (List Int) × Int × Int × Int)) :=
  andx (P_q_Check c_Book_Signed c_Book_Gatherings) fun (part21, at_21, e21) =>
    if ¬ e21 = 0 then
      some (Sum.inl (1, 0, e21))
    else
      andx (P_q_Leaves c_Book_Signed c_Book_Gatherings) fun (leaves31, e31) =>
        if (leaves31.length : Int) > 120 then
          some (Sum.inl (1, 0, 3))
        else
          if (c_Items.length : Int) > 120 then
            some (Sum.inl (2, 0, 3))
          else
            seqx (
              iter (P_c_open_L1 c_Items leaves31) 0) fun _ =>
              seqx (
                iter (P_c_open_L3 c_Items) (0, 0)) fun _ =>
                andx (
                  iter (P_c_open_L4 c_Book_Signed c_Book_Gatherings leaves31) (0, [])) fun b107_mates =>
                  some (Sum.inr (c_Book_Signed, (GSo true encL leaves31), b107_mates, 0, 0, 0))
noncomputable def P_c_Range (c_Book_Signed : Int) (c_Book_Gatherings : List Gat) (c_Items : List Item) : Option (Int × Int × Int) :=
  andx (P_c_open c_Book_Signed c_Book_Gatherings c_Items) fun y =>
    match y with
    | .inl (y10_2, y10_3, y10_4) =>
      chk (¬ y10_4 = 0) (
        some (0, 0, y10_4))
    | .inr (y10_2, y10_3, y10_4, y10_5, y10_6, y10_7) =>
      chk (y10_7 = 0) (
        andx (P_c_wide y10_2 c_Book_Gatherings c_Items y10_3.l y10_4) fun (y20, y20_2) =>
          some (y20, y20_2, 0))
end Go.Am
end
section
namespace Go.Am.YthckcbfijdambaaGreat
open Go.Am Go.RowKit
set_option linter.unusedVariables false
set_option linter.unusedSimpArgs false
set_option maxRecDepth 10000 in
theorem tf_c_wide {k : Nat} (hk : 0 ≤ k) {C : List Thing} {id_x : Nat} {x_CpCase_Book_Signed : Int} {v_x_CpCase_Book_Gatherings : AV} {x_CpCase_Book_Gatherings : List Gat} {v_x_CpCase_Items : AV} {x_CpCase_Items : List Item} {v_x_leaves : AV} {x_leaves : List Leaf} {v_x_mates : AV} {x_mates : List Int} (h_x_CpCase_Book_Gatherings : Rdl C encG v_x_CpCase_Book_Gatherings x_CpCase_Book_Gatherings) (h_x_CpCase_Items : Rdl C encIt v_x_CpCase_Items x_CpCase_Items) (h_x_leaves : Rdl C encL v_x_leaves x_leaves) (h_x_mates : Rdl C encI v_x_mates x_mates) (h_x : Thing.row id_x 5 [iv (x_CpCase_Book_Signed), v_x_CpCase_Book_Gatherings, v_x_CpCase_Items, v_x_leaves, v_x_mates] ∈ C) {r : Int × Int} (h : P_c_wide x_CpCase_Book_Signed x_CpCase_Book_Gatherings x_CpCase_Items x_leaves x_mates = some r) :
  TF (EL k) 42 [.ptr id_x 0 5] C (RepF (fun (w : Unit) => .agg [iv r.1, iv r.2]) (fun (w : Unit) => C)) := by
 unfold P_c_wide at h;refine TF.enterG (fn := Go.Proofs.Tryz.f42) rfl rfl rfl rfl rfl (zU rfl (zQ 1 [_] R7 (fun b1=>zJ 2 [_,_] R7 (fun b2=>zN (zS (T.drawE (l1 := [0, 1, 2, 3, 4, 5, 6, 7, 8, 9, 10, 11, 12, 13]) (l2 := [14]) (by kernel_rfl) (by kernel_rfl) (yR R4 (vR (p := 1) R6) (yL R4 (Val.nil_ptr rfl) (yL R4 (Val.faddr_ptr (fo := 3) rfl rfl rfl) (yR R4 (Val.load_rowM h_x M2 ⟨_, rfl, rfl⟩ rfl rfl rfl) (yR R4 (Val.len_l h_x_leaves M2 rfl rfl) (yR R4 (vR (p := 1) R6) (yL R4 (Val.nil_ptr rfl) (yL R4 (Val.faddr_ptr (fo := 0) rfl rfl rfl) (yL R4 (Val.faddr_ptr (fo := 2) rfl rfl rfl) (yR R4 (Val.load_rowM h_x M2 ⟨_, rfl, rfl⟩ rfl rfl rfl) (yR R4 (Val.len_l h_x_CpCase_Items M2 rfl rfl) ?_)))))))))))))))));obtain ⟨hk16, h⟩ := chk_some h;refine yL R4 (Val.mul rfl rfl hk16) ?_;obtain ⟨hk17, h⟩ := chk_some h;refine yL R4 (Val.add rfl rfl hk17) (yL R4 (Val.faddr_ptr (fo := 0) rfl rfl rfl) (TD1.over (fun v => sameC_refl v) (all_cons (⟨_, rfl, (Val.len_l h_x_CpCase_Items M2 rfl rfl)⟩) (all_cons (⟨_, rfl, (Val.load_rowM h_x M2 ⟨_, rfl, rfl⟩ rfl rfl rfl)⟩) (all_cons (⟨_, rfl, (vR (p := 1) R6)⟩) (all_cons (⟨_, rfl, (Val.len_l h_x_leaves M2 rfl rfl)⟩) (all_cons (⟨_, rfl, (Val.load_rowM h_x M2 ⟨_, rfl, rfl⟩ rfl rfl rfl)⟩) (all_cons (⟨_, rfl, (vR (p := 1) R6)⟩) all_nil)))))) (TD2.heavy (fun v => sameC_refl v) rfl (by decide) rfl rfl (OpS.eff (Eff.store_row (p := 0) (cv := [_]) (cells' := [_, _]) rfl rfl rfl rfl rfl rfl rfl rfl (by first | rfl | (simp [GS.one]; done)) (by decide) rfl)) ?_)));rintro _ _ rfl;refine ⟨(all_cons (.inl (by kernel_rfl)) (all_cons (.inl (by kernel_rfl)) (all_cons (.inl (by kernel_rfl)) (all_cons (.inl (by kernel_rfl)) (all_cons (.inl (by kernel_rfl)) (all_cons (.inl (by kernel_rfl)) all_nil)))))), all_nil, ?_⟩;refine yG (_::_::C) rfl (TD2.nil ?_)
 show T _ _ _ _ _ _;apply T.joinA (r := r) (W := Nat) (fun (j : Int × Int) (w : Nat) => ⟨[w], [(2, .ptr b2 0 2)], .obj w (.dfr true) :: .row b2 2 [iv (j.1), iv (j.2)] :: .row b1 1 [.ptr id_x 0 5] :: C⟩) h
 ·intro j h;refine zU rfl (zL 1 R3 R6 (TO.callIn rfl rfl rfl rfl rfl rfl (orcN rfl) (TF.enter (fn := Go.Proofs.Tryz.f54) rfl rfl rfl rfl rfl (zU rfl (zQ 1 [_] R7 (fun b1_2=>zA R4 (zN (zU rfl (zV R3 (Val.makeFunc rfl rfl) (zA R4 (zN (zR ?_))))))))))));refine ⟨rfl, _, rfl, ?_⟩;refine zN (zB ?_);obtain ⟨hkR1, h⟩ := chk_some h
  show T _ _ _ _ _ _;apply T.rangeP (r := j) (W := Unit) (w0 := ()) ArgT (fun (j : Int × Int) (w : Unit) => [.row b2 2 [iv (j.1), iv (j.2)]]) (.row b1_2 1 [.ptr id_x 0 5] :: .row b1 1 [.ptr id_x 0 5] :: C) h
  ·rfl
  ·rfl
  ·rfl
  ·exact (pk [1] rfl)
  ·exact tr_yields (List.mem_of_getElem? (i := 0) rfl) (M2 _ h_x) (Rdl.mono h_x_CpCase_Items M2) hkR1
  ·rintro l1 d ⟨s_Lo, s_Hi⟩ _ t vs G F1 ans hmem harg hD hG h;unfold P_c_wide_L1 at h;dsimp only at h;obtain ⟨v_t, rfl, rfl⟩ := harg
   have h_t : Rdl F1 encI v_t t := .inr ⟨false, hG _ (by simp)⟩
   have hCF : ∀ x ∈ C, x ∈ F1 := fun x hx => hD x (memS M1 x hx)
   replace h_x_CpCase_Book_Gatherings := Rdl.mono h_x_CpCase_Book_Gatherings hCF;replace h_x_CpCase_Items := Rdl.mono h_x_CpCase_Items hCF;replace h_x_leaves := Rdl.mono h_x_leaves hCF;replace h_x_mates := Rdl.mono h_x_mates hCF;replace h_x := hCF _ h_x
   have hu1_t3 : Thing.row b1_2 1 [.ptr id_x 0 5] ∈ F1 := (hD _ (List.mem_of_getElem? (i := 0) rfl))
   have hu1_t1 : Thing.row b1 1 [.ptr id_x 0 5] ∈ F1 := (hD _ (List.mem_of_getElem? (i := 1) rfl));refine ⟨_, rfl, fun LR1 LB1 hLB1 => ?_⟩;refine T.things (hs' := LR1 :: .row b2 2 [iv (s_Lo), iv (s_Hi)] :: F1) rfl (zT rfl (zA R4 (zN ?_)));refine ⟨rfl, 0, rfl, ?_⟩;refine T.things (hs' := LB1 :: .row b2 2 [iv (s_Lo), iv (s_Hi)] :: F1) rfl (zB (zU rfl (zV R3 (Val.load_rowM hu1_t1 M2 ⟨_, rfl, rfl⟩ rfl rfl rfl) (zM R4 ?_))));obtain ⟨⟨y24, y24_2, y24_3, y24_4, y24_5, y24_6, y24_7⟩, hr24, h⟩ := andx_some h;dsimp only at h;refine TO.callT (first := []) (cap := []) (vs := [.ptr id_x 0 5, v_t]) rfl rfl rfl rfl rfl rfl (orcN rfl) (tf_c_faults (by first | decide | omega) (Rdl.mono h_x_CpCase_Book_Gatherings M2) (Rdl.mono h_x_CpCase_Items M2) (Rdl.mono h_x_leaves M2) (Rdl.mono h_x_mates M2) (M2 _ h_x) (Rdl.mono h_t M2) hr24) ?_;rintro ⟨w24, w24_2, w24_3, w24_4, w24_5⟩;refine zG (_::_::_::_::_::_::_::F1) rfl (zV R3 (Val.field (k := 0) rfl rfl rfl rfl rfl) (zA R4 (zN (zT rfl (zF 0 R6 (zL 6 R3 R6 (zM R4 (zV R3 (Val.bmin rfl rfl) (zF 1 R6 (zL 6 R3 R6 (zM R4 (zV R3 (Val.bmax rfl rfl) (zV R3 (Val.buildC (cs := [_, _]) (vs := [(_, _), (_, _)]) (ws := [(_, [_]), (_, [_])]) rfl rfl (CellsL.cons rfl (CellsL.cons rfl CellsL.nil)) rfl) (TO.eff0 rfl rfl (Eff.store_row (p := 6) (cv := [_, _]) (cells' := [_, _]) rfl rfl rfl rfl rfl rfl rfl rfl (by first | rfl | (simp [GS.one]; done)) (by decide) rfl) ?_))))))))))))));rintro _ rfl;refine zG (_::_::_::_::_::_::_::F1) rfl (zN ?_);cases h;exact ⟨rfl, (), (pk [5,5,98,98,98,98,98] rfl)⟩
  ·rintro d ⟨s_Lo, s_Hi⟩ _ h;dsimp only at h;cases h;exact ⟨rfl, d, (sb (pk [0,0,1,98] rfl))⟩
 ·rintro ⟨s_Lo, s_Hi⟩ iddfr1 h;dsimp only at h;refine zH ⟨[iddfr1], [(2, .ptr b2 0 2)], .obj iddfr1 (.dfr true) :: .row b2 2 [iv (s_Lo), iv (s_Hi)] :: .row b1 1 [.ptr id_x 0 5] :: C⟩ rfl (zU rfl (zV R3 (vW 1 [_,_] R5 R4) (TO.eff0 rfl rfl (Eff.store_row (p := 1) (cv := [_, _]) (cells' := [_, _]) rfl rfl rfl rfl rfl rfl rfl rfl (by first | rfl | (simp [GS.one]; done)) (by decide) rfl) ?_)));rintro _ rfl;refine zG (_::_::_::C) rfl (zN (zR ?_));cases h;exact ⟨rfl, _, ⟨0, rfl, rfl⟩, [_], ⟨⟨_, rfl, LoadR.rows (p := 0) (c := [_, _]) rfl ⟨⟨_, rfl, rfl⟩, rfl, by decide⟩ rfl rfl rfl⟩, trivial⟩, ⟨(), rfl, (pk [98,98] rfl)⟩⟩
set_option maxRecDepth 10000 in
theorem tf_c_open {k : Nat} (hk : 5 ≤ k) {C : List Thing} {c_Book_Signed : Int} {v_c_Book_Gatherings : AV} {c_Book_Gatherings : List Gat} {v_c_Items : AV} {c_Items : List Item} (h_c_Book_Gatherings : Rdl C encG v_c_Book_Gatherings c_Book_Gatherings) (h_c_Items : Rdl C encIt v_c_Items c_Items) {r : Sum (Int × Int × Int) (Int × (GS encL) × (List Int) × Int × Int × Int)} (h : P_c_open c_Book_Signed c_Book_Gatherings c_Items = some r) :
  TF (EL k) 40 [.agg [iv (c_Book_Signed), v_c_Book_Gatherings, v_c_Items]] C (RepS (fun (r : Int × Int × Int) => RepF (fun (w : Unit) => .tuple [.lit (.pointer none), iv r.1, iv r.2.1, iv r.2.2]) (fun (w : Unit) => C)) (fun (r : Int × (GS encL) × (List Int) × Int × Int × Int) => RepF (fun (w : Nat × AV) => .tuple [.ptr w.1 0 5, iv r.2.2.2.1, iv r.2.2.2.2.1, iv r.2.2.2.2.2]) (fun (w : Nat × AV) => .row w.1 5 [iv r.1, v_c_Book_Gatherings, v_c_Items, r.2.1.v, w.2] :: ownL true w.2 encI r.2.2.1 :: C)) r) := by
 unfold P_c_open at h;refine TF.enter (fn := Go.Proofs.Tryz.f40) rfl rfl rfl rfl rfl (zU rfl (zQ 3 [_,_,_] R7 (fun b1=>zA R4 (zA R4 (zA R4 (zA R4 (zN (zS (zU rfl (zF 0 R6 (zV R3 (vW 0 [_,_] R5 R4) ?_)))))))))));obtain ⟨⟨part21, at_21, e21⟩, hr21, h⟩ := andx_some h;dsimp only at h;obtain ⟨g, hgg, hrg⟩ := Rdl.reif (hs := .row b1 3 [iv (c_Book_Signed), v_c_Book_Gatherings, v_c_Items] :: C) h_c_Book_Gatherings M1 (ReifL.flat encG_tr);refine TO.call rfl rfl rfl rfl rfl (orcL rfl (by first | decide | omega)) (.cons (.agg (.cons .lit (.cons (hrg _) .nil))) .nil) (sem_of (w_q_Check c_Book_Signed g _ (by try rw [hgg]; exact hr21))) (zM R4 (zX R5 (zX R5 (zX R5 (zA R4 (zN (zU rfl (zM R4 ?_))))))));obtain ⟨c26, hc26⟩ := zY (¬ e21 = 0);refine zV R3 (Val.neq hc26 rfl rfl) (zN ?_);obtain ⟨rfl, hc26, h⟩ | ⟨rfl, hc26, h⟩ := zI hc26 h
 ·refine zC rfl (zU rfl (zM R4 (zA R4 (zA R4 (zA R4 (zA R4 (zN (zR ?_))))))));cases h;exact ⟨rfl, _, rfl, ⟨(), rfl, (pk [98] rfl)⟩⟩
 refine zD rfl (zK (zU rfl (zF 0 R6 (zV R3 (vW 0 [_,_] R5 R4) ?_))));obtain ⟨⟨leaves31, e31⟩, hr31, h⟩ := andx_some h;dsimp only at h;obtain ⟨g_2, hgg_2, hrg_2⟩ := Rdl.reif (hs := .row b1 3 [iv (c_Book_Signed), v_c_Book_Gatherings, v_c_Items] :: C) h_c_Book_Gatherings M1 (ReifL.flat encG_tr);refine TO.call rfl rfl rfl rfl rfl (orcL rfl (by first | decide | omega)) (.cons (.agg (.cons .lit (.cons (hrg_2 _) .nil))) .nil) (sem_of (w_q_Leaves c_Book_Signed g_2 _ (by try rw [hgg_2]; exact hr31))) (zM R4 (zX R5 (zX R5 (zA R4 (zA R4 (zN (zS (zU rfl (zM R4 (zV R3 (Val.len_gs rfl rfl) ?_))))))))));obtain ⟨c36, hc36⟩ := zY ((leaves31.length : Int) > 120);refine zV R3 (Val.gtr hc36 rfl rfl) (zN ?_);obtain ⟨rfl, hc36, h⟩ | ⟨rfl, hc36, h⟩ := zI hc36 h
 ·refine zC rfl (zU rfl (zA R4 (zA R4 (zA R4 (zA R4 (zN (zR ?_)))))));cases h;exact ⟨rfl, _, rfl, ⟨(), rfl, (pk [98] rfl)⟩⟩
 refine zD rfl (zK (zS (zU rfl (zF 2 R6 (zL 0 R3 R6 (zV R3 (Val.len_l h_c_Items M1 rfl rfl) ?_))))));obtain ⟨c40, hc40⟩ := zY ((c_Items.length : Int) > 120);refine zV R3 (Val.gtr hc40 rfl rfl) (zN ?_);obtain ⟨rfl, hc40, h⟩ | ⟨rfl, hc40, h⟩ := zI hc40 h
 ·refine zC rfl (zU rfl (zA R4 (zA R4 (zA R4 (zA R4 (zN (zR ?_)))))));cases h;exact ⟨rfl, _, rfl, ⟨(), rfl, (pk [98] rfl)⟩⟩
 refine zD rfl (zK ?_)
 show T _ _ _ _ _ _;apply T.join (r := r) (W := Unit) (fun (j : Unit) (w : Unit) => ⟨[], [(1, .ptr b1 0 3), (6, (GSo true encL leaves31).v)], .row b1 3 [iv (c_Book_Signed), v_c_Book_Gatherings, v_c_Items] :: C⟩) h
 ·intro j h;refine zU rfl (zF 2 R6 (zL 0 R3 R6 (zV R3 (Val.len_l h_c_Items M1 rfl rfl) (zM R4 (zN (zB ?_))))))
  show T _ _ _ _ _ _;apply T.iter (r := j) (W := Unit) (fun (j : Int) (w : Unit) => ⟨[], [(1, .ptr b1 0 3), (6, (GSo true encL leaves31).v), (42, v_c_Items), (43, iv ((c_Items.length : Int))), (44, iv (j))], .row b1 3 [iv (c_Book_Signed), v_c_Book_Gatherings, v_c_Items] :: C⟩) (w0 := ()) h
  ·exact (sb .refl)
  rintro x44 _ a h;unfold P_c_open_L1 at h;refine zH ⟨[], [(1, .ptr b1 0 3), (6, (GSo true encL leaves31).v), (42, v_c_Items), (43, iv ((c_Items.length : Int))), (44, iv (x44))], .row b1 3 [iv (c_Book_Signed), v_c_Book_Gatherings, v_c_Items] :: C⟩ rfl (zU rfl ?_);obtain ⟨c45, hc45⟩ := zY (x44 < (c_Items.length : Int));refine zV R3 (Val.lss hc45 rfl rfl) (zN (zS ?_));obtain ⟨rfl, hc45, h⟩ | ⟨rfl, hc45, h⟩ := zI hc45 h
  ·refine zC rfl (zK ?_)
   show T _ _ _ _ _ _;apply T.join (r := a) (W := Unit) (fun (j : Unit) (w : Unit) => ⟨[], [(1, .ptr b1 0 3), (6, (GSo true encL leaves31).v), (42, v_c_Items), (43, iv ((c_Items.length : Int))), (44, iv (x44))], .row b1 3 [iv (c_Book_Signed), v_c_Book_Gatherings, v_c_Items] :: C⟩) h
   ·intro j h;refine zB (zU rfl (zM R4 ?_));obtain ⟨a47, hia47, ea47, h⟩ := el_some h;refine TO.fact (rdl_at h_c_Items M1 hia47 ea47) (fun hp=>?_);obtain ⟨pa47, hpa47, hva47⟩ := hp;refine zV R3 (hva47 ⟨rfl, rfl⟩ rfl rfl) (zV R3 (Val.load_es (c := [_]) hpa47 M1 ⟨⟨_, rfl, rfl⟩, rfl, by decide⟩ rfl rfl rfl) (zJ 1 [_] R7 (fun b9=>zA R4 (TO.eff0 rfl rfl (Eff.store_row (p := 0) (cv := [_]) (cells' := [_]) rfl rfl rfl rfl rfl rfl rfl rfl (by first | rfl | (simp [GS.one]; done)) (by decide) rfl) ?_))));rintro _ rfl;refine zG (_::_::C) rfl (zN (zS (zB (zU rfl (zF 0 R6 (zL 0 R3 R6 (zV R3 (Val.len_gs rfl rfl) ?_)))))));obtain ⟨c53, hc53⟩ := zY ((a47.could.l.length : Int) > 4);refine zV R3 (Val.gtr hc53 rfl rfl) (zA R4 (zN ?_));obtain ⟨rfl, hc53, h⟩ | ⟨rfl, hc53, h⟩ := zI hc53 h
    ·refine zC rfl (zU rfl (zM R4 (zA R4 (zA R4 (zA R4 (zA R4 (zN (zR ?_))))))));cases h;exact ⟨ret_ne, ⟨ret_ne, ⟨ret_ne, ⟨rfl, _, rfl, ⟨(), rfl, (pk [98,98] rfl)⟩⟩⟩⟩⟩
    refine zD rfl (zU rfl (zM R4 (zV R3 (Val.len_gs rfl rfl) ?_)));obtain ⟨hk58, h⟩ := chk_some h;refine zV R3 (Val.sub rfl rfl hk58) (zF 0 R6 (zL 0 R3 R6 ?_));obtain ⟨out61, hr61, h⟩ := andx_some h;refine TO.call rfl rfl rfl rfl rfl (orcL rfl (by first | decide | omega)) (.cons .lit (.cons .lit (.cons .gs .nil))) (sem_of (w_c_outside 0 ((leaves31.length : Int) - 1) a47.could _ (by exact hr61))) (zA R4 (zN ?_));obtain ⟨rfl, h⟩ | ⟨rfl, h⟩ := zZ h
    ·refine zC rfl (zU rfl (zM R4 (zA R4 (zA R4 (zA R4 (zA R4 (zN (zR ?_))))))));cases h;exact ⟨ret_ne, ⟨ret_ne, ⟨ret_ne, ⟨rfl, _, rfl, ⟨(), rfl, (pk [98,98] rfl)⟩⟩⟩⟩⟩
    refine zD rfl (zK (zU rfl (zF 0 R6 (zL 0 R3 R6 (zV R3 (Val.len_gs rfl rfl) (zM R4 (zN (zB ?_))))))))
    show T _ _ _ _ _ _;apply T.iter (r := j) (W := Unit) (fun (j : Int) (w : Unit) => ⟨[], [(1, .ptr b1 0 3), (6, (GSo true encL leaves31).v), (8, iv (x44)), (9, .ptr b9 0 1), (42, v_c_Items), (43, iv ((c_Items.length : Int))), (44, iv (x44)), (64, a47.could.v), (65, iv ((a47.could.l.length : Int))), (66, iv (j))], .row b9 1 [a47.could.v] :: .row b1 3 [iv (c_Book_Signed), v_c_Book_Gatherings, v_c_Items] :: C⟩) (w0 := ()) h
    ·exact (sb .refl)
    rintro x66 _ a h;unfold P_c_open_L2 at h;refine zH ⟨[], [(1, .ptr b1 0 3), (6, (GSo true encL leaves31).v), (8, iv (x44)), (9, .ptr b9 0 1), (42, v_c_Items), (43, iv ((c_Items.length : Int))), (44, iv (x44)), (64, a47.could.v), (65, iv ((a47.could.l.length : Int))), (66, iv (x66))], .row b9 1 [a47.could.v] :: .row b1 3 [iv (c_Book_Signed), v_c_Book_Gatherings, v_c_Items] :: C⟩ rfl (zU rfl ?_);obtain ⟨c67, hc67⟩ := zY (x66 < (a47.could.l.length : Int));refine zV R3 (Val.lss hc67 rfl rfl) (zN (zS ?_));obtain ⟨rfl, hc67, h⟩ | ⟨rfl, hc67, h⟩ := zI hc67 h
    ·refine zC rfl (zK ?_)
     show T _ _ _ _ _ _;apply T.join (r := a) (W := Unit) (fun (j : Unit) (w : Unit) => ⟨[], [(1, .ptr b1 0 3), (6, (GSo true encL leaves31).v), (8, iv (x44)), (9, .ptr b9 0 1), (42, v_c_Items), (43, iv ((c_Items.length : Int))), (44, iv (x44)), (64, a47.could.v), (65, iv ((a47.could.l.length : Int))), (66, iv (x66))], .row b9 1 [a47.could.v] :: .row b1 3 [iv (c_Book_Signed), v_c_Book_Gatherings, v_c_Items] :: C⟩) h
     ·intro j h;refine zB (zU rfl (zM R4 ?_));obtain ⟨a69, hia69, ea69, h⟩ := el_some h;refine TO.fact (rdl_at (Rdl.gs (C := C) a47.could) M2 hia69 ea69) (fun hp=>?_);obtain ⟨pa69, hpa69, hva69⟩ := hp;refine zV R3 (hva69 ⟨rfl, rfl⟩ rfl rfl) (zV R3 (Val.load_e hpa69 M2 ⟨_, rfl, rfl⟩ rfl rfl) (zA R4 (zA R4 (zN ?_))))
      show T _ _ _ _ _ _;apply T.joinA (r := j) (W := Unit) (fun (j : Bool) (w : Unit) => ⟨[], [(1, .ptr b1 0 3), (6, (GSo true encL leaves31).v), (8, iv (x44)), (9, .ptr b9 0 1), (42, v_c_Items), (43, iv ((c_Items.length : Int))), (44, iv (x44)), (64, a47.could.v), (65, iv ((a47.could.l.length : Int))), (66, iv (x66)), (82, bv j)], .row b9 1 [a47.could.v] :: .row b1 3 [iv (c_Book_Signed), v_c_Book_Gatherings, v_c_Items] :: C⟩) h
      ·intro j h;refine zT rfl (zM R4 ?_);obtain ⟨c72, hc72⟩ := zY (x66 > 0);refine zV R3 (Val.gtr hc72 rfl rfl) (zM R4 ?_);obtain ⟨rfl, hc72, h⟩ | ⟨rfl, hc72, h⟩ := zI hc72 h
       ·refine zM R4 (zF 0 R6 (zL 0 R3 R6 (zM R4 ?_)));obtain ⟨hk78, h⟩ := chk_some h;refine zV R3 (Val.sub rfl rfl hk78) ?_;obtain ⟨a79, hia79, ea79, h⟩ := el_some h;refine TO.fact (rdl_at (Rdl.gs (C := C) a47.could) M2 hia79 ea79) (fun hp=>?_);obtain ⟨pa79, hpa79, hva79⟩ := hp;refine zV R3 (hva79 ⟨rfl, rfl⟩ rfl rfl) (zV R3 (Val.load_e hpa79 M2 ⟨_, rfl, rfl⟩ rfl rfl) ?_);obtain ⟨c81, hc81⟩ := zY (a69 ≤ a79);refine zV R3 (Val.leq hc81 rfl rfl) (zP R6 (zN ?_));subst hc81;cases h;exact ⟨rfl, (), (sb .refl)⟩
       refine zO R3 (zO R3 (zO R3 (zO R3 (zO R3 (zO R3 (zO R3 (zO R3 (zP R6 (zN ?_)))))))));cases h;exact ⟨rfl, (), (sb .refl)⟩
      ·rintro x82 _ h;refine zH ⟨[], [(1, .ptr b1 0 3), (6, (GSo true encL leaves31).v), (8, iv (x44)), (9, .ptr b9 0 1), (42, v_c_Items), (43, iv ((c_Items.length : Int))), (44, iv (x44)), (64, a47.could.v), (65, iv ((a47.could.l.length : Int))), (66, iv (x66)), (82, bv x82)], .row b9 1 [a47.could.v] :: .row b1 3 [iv (c_Book_Signed), v_c_Book_Gatherings, v_c_Items] :: C⟩ rfl ?_;obtain ⟨rfl, h⟩ | ⟨rfl, h⟩ := zZ h
       ·refine zC rfl (zU rfl (zM R4 (zA R4 (zA R4 (zA R4 (zA R4 (zN (zR ?_))))))));cases h;exact ⟨ret_ne, ⟨ret_ne, ⟨ret_ne, ⟨ret_ne, ⟨ret_ne, ⟨rfl, _, rfl, ⟨(), rfl, (pk [98,98] rfl)⟩⟩⟩⟩⟩⟩⟩
       refine zD rfl (zK ?_);cases h;exact ⟨rfl, (), (sb .refl)⟩
     ·rintro _ _ h;refine zH ⟨[], [(1, .ptr b1 0 3), (6, (GSo true encL leaves31).v), (8, iv (x44)), (9, .ptr b9 0 1), (42, v_c_Items), (43, iv ((c_Items.length : Int))), (44, iv (x44)), (64, a47.could.v), (65, iv ((a47.could.l.length : Int))), (66, iv (x66))], .row b9 1 [a47.could.v] :: .row b1 3 [iv (c_Book_Signed), v_c_Book_Gatherings, v_c_Items] :: C⟩ rfl (zT rfl ?_);obtain ⟨hk84, h⟩ := chk_some h;refine zV R3 (Val.add rfl rfl hk84) (zM R4 (zN ?_));cases h;exact ⟨rfl, (), (sb .refl)⟩
    refine zD rfl (zE ?_);cases h;exact ⟨ex_ne, ⟨rfl, (), (sb (pk [1,98] rfl))⟩⟩
   ·rintro _ _ h;refine zH ⟨[], [(1, .ptr b1 0 3), (6, (GSo true encL leaves31).v), (42, v_c_Items), (43, iv ((c_Items.length : Int))), (44, iv (x44))], .row b1 3 [iv (c_Book_Signed), v_c_Book_Gatherings, v_c_Items] :: C⟩ rfl (zT rfl ?_);obtain ⟨hk85, h⟩ := chk_some h;refine zV R3 (Val.add rfl rfl hk85) (zM R4 (zN ?_));cases h;exact ⟨rfl, (), (sb .refl)⟩
  refine zD rfl (zE ?_);cases h;exact ⟨ex_ne, ⟨rfl, (), (sb .refl)⟩⟩
 ·rintro _ _ h;refine zH ⟨[], [(1, .ptr b1 0 3), (6, (GSo true encL leaves31).v)], .row b1 3 [iv (c_Book_Signed), v_c_Book_Gatherings, v_c_Items] :: C⟩ rfl (zU rfl (zA R4 (zN ?_)))
  show T _ _ _ _ _ _;apply T.join (r := r) (W := Unit) (fun (j : Unit) (w : Unit) => ⟨[], [(1, .ptr b1 0 3), (6, (GSo true encL leaves31).v)], .row b1 3 [iv (c_Book_Signed), v_c_Book_Gatherings, v_c_Items] :: C⟩) h
  ·intro j h;refine zU rfl (zF 2 R6 (zL 0 R3 R6 (zV R3 (Val.len_l h_c_Items M1 rfl rfl) (zM R4 (zN (zB ?_))))))
   show T _ _ _ _ _ _;apply T.iter (r := j) (W := Unit) (fun (j : Int × Int) (w : Unit) => ⟨[], [(1, .ptr b1 0 3), (6, (GSo true encL leaves31).v), (12, iv (j.1)), (87, v_c_Items), (88, iv ((c_Items.length : Int))), (89, iv (j.2))], .row b1 3 [iv (c_Book_Signed), v_c_Book_Gatherings, v_c_Items] :: C⟩) (w0 := ()) h
   ·exact (sb .refl)
   rintro ⟨doubts, x89⟩ _ a h;unfold P_c_open_L3 at h;dsimp only at h;refine zH ⟨[], [(1, .ptr b1 0 3), (6, (GSo true encL leaves31).v), (12, iv (doubts)), (87, v_c_Items), (88, iv ((c_Items.length : Int))), (89, iv (x89))], .row b1 3 [iv (c_Book_Signed), v_c_Book_Gatherings, v_c_Items] :: C⟩ rfl (zU rfl ?_);obtain ⟨c90, hc90⟩ := zY (x89 < (c_Items.length : Int));refine zV R3 (Val.lss hc90 rfl rfl) (zN (zS ?_));obtain ⟨rfl, hc90, h⟩ | ⟨rfl, hc90, h⟩ := zI hc90 h
   ·refine zC rfl (zK ?_)
    show T _ _ _ _ _ _;apply T.join (r := a) (W := Unit) (fun (j : Int) (w : Unit) => ⟨[], [(1, .ptr b1 0 3), (6, (GSo true encL leaves31).v), (12, iv (j)), (87, v_c_Items), (88, iv ((c_Items.length : Int))), (89, iv (x89))], .row b1 3 [iv (c_Book_Signed), v_c_Book_Gatherings, v_c_Items] :: C⟩) h
    ·intro j h;refine zB (zU rfl (zM R4 ?_));obtain ⟨a92, hia92, ea92, h⟩ := el_some h;refine TO.fact (rdl_at h_c_Items M1 hia92 ea92) (fun hp=>?_);obtain ⟨pa92, hpa92, hva92⟩ := hp;refine zV R3 (hva92 ⟨rfl, rfl⟩ rfl rfl) (zV R3 (Val.load_es (c := [_]) hpa92 M1 ⟨⟨_, rfl, rfl⟩, rfl, by decide⟩ rfl rfl rfl) (zJ 1 [_] R7 (fun b14=>zA R4 (TO.eff0 rfl rfl (Eff.store_row (p := 0) (cv := [_]) (cells' := [_]) rfl rfl rfl rfl rfl rfl rfl rfl (by first | rfl | (simp [GS.one]; done)) (by decide) rfl) ?_))));rintro _ rfl;refine zG (_::_::C) rfl (zN ?_)
     show T _ _ _ _ _ _;apply T.joinA (r := j) (W := Unit) (fun (j : Int) (w : Unit) => ⟨[], [(1, .ptr b1 0 3), (6, (GSo true encL leaves31).v), (12, iv (j)), (13, iv (x89)), (87, v_c_Items), (88, iv ((c_Items.length : Int))), (89, iv (x89))], .row b14 1 [a92.could.v] :: .row b1 3 [iv (c_Book_Signed), v_c_Book_Gatherings, v_c_Items] :: C⟩) h
     ·intro j h;refine zU rfl (zF 0 R6 (zL 0 R3 R6 (zV R3 (Val.len_gs rfl rfl) ?_)));obtain ⟨c97, hc97⟩ := zY ((a92.could.l.length : Int) > 1);refine zV R3 (Val.gtr hc97 rfl rfl) (zN ?_);obtain ⟨rfl, hc97, h⟩ | ⟨rfl, hc97, h⟩ := zI hc97 h
      ·refine zC rfl (zT rfl (zM R4 ?_));obtain ⟨hk99, h⟩ := chk_some h;refine zV R3 (Val.add rfl rfl hk99) (zA R4 (zN ?_));cases h;exact ⟨rfl, (), (sb .refl)⟩
      refine zD rfl (zK ?_);cases h;exact ⟨rfl, (), (sb .refl)⟩
     ·rintro doubts_2 _ h;refine zH ⟨[], [(1, .ptr b1 0 3), (6, (GSo true encL leaves31).v), (12, iv (doubts_2)), (13, iv (x89)), (87, v_c_Items), (88, iv ((c_Items.length : Int))), (89, iv (x89))], .row b14 1 [a92.could.v] :: .row b1 3 [iv (c_Book_Signed), v_c_Book_Gatherings, v_c_Items] :: C⟩ rfl (zU rfl (zM R4 ?_));obtain ⟨c101, hc101⟩ := zY (doubts_2 > 3);refine zV R3 (Val.gtr hc101 rfl rfl) (zN ?_);obtain ⟨rfl, hc101, h⟩ | ⟨rfl, hc101, h⟩ := zI hc101 h
      ·refine zC rfl (zU rfl (zM R4 (zA R4 (zA R4 (zA R4 (zA R4 (zN (zR ?_))))))));cases h;exact ⟨ret_ne, ⟨ret_ne, ⟨ret_ne, ⟨rfl, _, rfl, ⟨(), rfl, (pk [98,98] rfl)⟩⟩⟩⟩⟩
      refine zD rfl (zK ?_);cases h;exact ⟨rfl, (), (sb (pk [1,98] rfl))⟩
    ·rintro doubts_2 _ h;refine zH ⟨[], [(1, .ptr b1 0 3), (6, (GSo true encL leaves31).v), (12, iv (doubts_2)), (87, v_c_Items), (88, iv ((c_Items.length : Int))), (89, iv (x89))], .row b1 3 [iv (c_Book_Signed), v_c_Book_Gatherings, v_c_Items] :: C⟩ rfl (zT rfl ?_);obtain ⟨hk103, h⟩ := chk_some h;refine zV R3 (Val.add rfl rfl hk103) (zM R4 (zN ?_));cases h;exact ⟨rfl, (), (sb .refl)⟩
   refine zD rfl (zE ?_);cases h;exact ⟨ex_ne, ⟨rfl, (), (sb .refl)⟩⟩
  ·rintro _ _ h;refine zH ⟨[], [(1, .ptr b1 0 3), (6, (GSo true encL leaves31).v)], .row b1 3 [iv (c_Book_Signed), v_c_Book_Gatherings, v_c_Items] :: C⟩ rfl (zU rfl (zV R3 (vW 0 [_,_,_] R5 R4) (zM R4 (zV R3 (Val.buildC (cs := [_, _, _, _, _]) (vs := [(_, _), (_, _)]) (ws := [(_, [_, _, _]), (_, [_])]) rfl rfl (CellsL.cons rfl (CellsL.cons (GS.cells (GSo true encL leaves31)).1 CellsL.nil)) rfl) (zQ 5 [_,_,_,_,_] R7 (fun b107=>zA R4 (zN ?_)))))))
   show T _ _ _ _ _ _;apply T.joinA (r := r) (W := AV) (fun (j : (List Int)) (w : AV) => ⟨[], [(2, .ptr b107 0 5)], ownL true w encI j :: .row b107 5 [iv (c_Book_Signed), v_c_Book_Gatherings, v_c_Items, (GSo true encL leaves31).v, w] :: .row b1 3 [iv (c_Book_Signed), v_c_Book_Gatherings, v_c_Items] :: C⟩) h
   ·intro j h;refine zU rfl (zM R4 (zV R3 (Val.len_gs rfl rfl) (zM R4 (zN (zB (T.nilown (u := encI.u) ?_))))))
    show T _ _ _ _ _ _;apply T.iter (r := j) (W := AV) (fun (j : Int × (List Int)) (w : AV) => ⟨[], [(1, .ptr b1 0 3), (2, .ptr b107 0 5), (109, iv ((leaves31.length : Int))), (110, iv (j.1))], ownL true w encI j.2 :: .row b107 5 [iv (c_Book_Signed), v_c_Book_Gatherings, v_c_Items, (GSo true encL leaves31).v, w] :: .row b1 3 [iv (c_Book_Signed), v_c_Book_Gatherings, v_c_Items] :: C⟩) (w0 := nilS) h
    ·exact (sb .refl)
    rintro ⟨x110, b107_mates⟩ v5 a h;unfold P_c_open_L4 at h;dsimp only at h;refine zH ⟨[], [(1, .ptr b1 0 3), (2, .ptr b107 0 5), (109, iv ((leaves31.length : Int))), (110, iv (x110))], ownL true v5 encI b107_mates :: .row b107 5 [iv (c_Book_Signed), v_c_Book_Gatherings, v_c_Items, (GSo true encL leaves31).v, v5] :: .row b1 3 [iv (c_Book_Signed), v_c_Book_Gatherings, v_c_Items] :: C⟩ rfl (zU rfl ?_);obtain ⟨c111, hc111⟩ := zY (x110 < (leaves31.length : Int));refine zV R3 (Val.lss hc111 rfl rfl) (zN (zS ?_));obtain ⟨rfl, hc111, h⟩ | ⟨rfl, hc111, h⟩ := zI hc111 h
    ·refine zC rfl (zK ?_)
     show T _ _ _ _ _ _;apply T.joinA (r := a) (W := AV) (fun (j : (List Int)) (w : AV) => ⟨[], [(1, .ptr b1 0 3), (2, .ptr b107 0 5), (109, iv ((leaves31.length : Int))), (110, iv (x110))], ownL true w encI j :: .row b107 5 [iv (c_Book_Signed), v_c_Book_Gatherings, v_c_Items, (GSo true encL leaves31).v, w] :: .row b1 3 [iv (c_Book_Signed), v_c_Book_Gatherings, v_c_Items] :: C⟩) h
     ·intro j h;refine zB (zU rfl (zM R4 (zA R4 (zN (zU rfl (zF 0 R6 (zV R3 (vW 2 [_,_] R5 R4) (zM R4 ?_))))))));obtain ⟨⟨mate117, e117⟩, hr117, h⟩ := andx_some h;dsimp only at h;obtain ⟨g_3, hgg_3, hrg_3⟩ := Rdl.reif (hs := ownL true v5 encI b107_mates :: .row b107 5 [iv (c_Book_Signed), v_c_Book_Gatherings, v_c_Items, (GSo true encL leaves31).v, v5] :: .row b1 3 [iv (c_Book_Signed), v_c_Book_Gatherings, v_c_Items] :: C) h_c_Book_Gatherings M3 (ReifL.flat encG_tr);refine TO.call rfl rfl rfl rfl rfl (orcL rfl (by first | decide | omega)) (.cons (.agg (.cons .lit (.cons (hrg_3 _) .nil))) (.cons .lit .nil)) (sem_of (w_q_Mate c_Book_Signed g_3 x110 _ (by try rw [hgg_3]; exact hr117))) (zM R4 (zX R5 (zX R5 (zA R4 (zA R4 (zN ?_))))))
      show T _ _ _ _ _ _;apply T.joinA (r := j) (W := Unit) (fun (j : Int) (w : Unit) => ⟨[], [(1, .ptr b1 0 3), (2, .ptr b107 0 5), (16, iv (j)), (109, iv ((leaves31.length : Int))), (110, iv (x110))], ownL true v5 encI b107_mates :: .row b107 5 [iv (c_Book_Signed), v_c_Book_Gatherings, v_c_Items, (GSo true encL leaves31).v, v5] :: .row b1 3 [iv (c_Book_Signed), v_c_Book_Gatherings, v_c_Items] :: C⟩) h
      ·intro j h;refine zU rfl (zM R4 ?_);obtain ⟨c121, hc121⟩ := zY (¬ e117 = 0);refine zV R3 (Val.neq hc121 rfl rfl) (zN ?_);obtain ⟨rfl, hc121, h⟩ | ⟨rfl, hc121, h⟩ := zI hc121 h
       ·refine zC rfl (zT rfl (zA R4 (zN ?_)));cases h;exact ⟨rfl, (), (sb .refl)⟩
       refine zD rfl (zK ?_);cases h;exact ⟨rfl, (), (sb .refl)⟩
      ·rintro m _ h;refine zH ⟨[], [(1, .ptr b1 0 3), (2, .ptr b107 0 5), (16, iv (m)), (109, iv ((leaves31.length : Int))), (110, iv (x110))], ownL true v5 encI b107_mates :: .row b107 5 [iv (c_Book_Signed), v_c_Book_Gatherings, v_c_Items, (GSo true encL leaves31).v, v5] :: .row b1 3 [iv (c_Book_Signed), v_c_Book_Gatherings, v_c_Items] :: C⟩ rfl (zT rfl (zM R4 (zM R4 (zV R3 (Val.nil_ptr rfl) (zF 4 R6 (zL 1 R3 R6 (zM R4 (TO.build1 (en := encI) (a := m) rfl rfl rfl ⟨rfl, rfl⟩ ⟨_, rfl, rfl⟩ (by decide) (by decide) rfl rfl (fun v128=>?_)))))))));obtain ⟨hk129, h⟩ := chk_some h;refine TO.eff rfl rfl rfl (Eff.append_own (b := 8) (en := encI) (l := b107_mates) (l2 := [m]) (p := 1) (q := 0) ⟨rfl, rfl, rfl, ⟨_, rfl, rfl⟩, by decide, by decide⟩ rfl rfl rfl rfl rfl rfl (flat_ones _) (by decide) hk129) ?_;rintro v129 _ rfl;refine zG (_::_::_::_::C) rfl (zV R3 (Val.nil_ptr rfl) (zF 4 R6 (TO.fact (own_cellS (p := 1) rfl) (fun hot5=>TO.eff0 rfl rfl (Eff.store_row (p := 2) (cv := [_]) (cells' := [_, _, _, _, _]) rfl rfl rfl rfl rfl hot5.1 rfl rfl (by first | rfl | (simp [GS.one, hot5.2]; done)) (by decide) rfl) ?_))));rintro _ rfl;refine zG (_::_::_::_::C) rfl (zN ?_);cases h;exact ⟨rfl, v129, (sb (pk [1,1,1,98] rfl))⟩
     ·rintro b107_mates_2 v5_2 h;refine zH ⟨[], [(1, .ptr b1 0 3), (2, .ptr b107 0 5), (109, iv ((leaves31.length : Int))), (110, iv (x110))], ownL true v5_2 encI b107_mates_2 :: .row b107 5 [iv (c_Book_Signed), v_c_Book_Gatherings, v_c_Items, (GSo true encL leaves31).v, v5_2] :: .row b1 3 [iv (c_Book_Signed), v_c_Book_Gatherings, v_c_Items] :: C⟩ rfl (zT rfl ?_);obtain ⟨hk132, h⟩ := chk_some h;refine zV R3 (Val.add rfl rfl hk132) (zM R4 (zN ?_));cases h;exact ⟨rfl, v5_2, (sb .refl)⟩
    refine zD rfl (zE ?_);cases h;exact ⟨ex_ne, ⟨rfl, v5, (sb .refl)⟩⟩
   ·rintro b107_mates v5 h;refine zH ⟨[], [(2, .ptr b107 0 5)], ownL true v5 encI b107_mates :: .row b107 5 [iv (c_Book_Signed), v_c_Book_Gatherings, v_c_Items, (GSo true encL leaves31).v, v5] :: .row b1 3 [iv (c_Book_Signed), v_c_Book_Gatherings, v_c_Items] :: C⟩ rfl (zU rfl (zM R4 (zA R4 (zA R4 (zA R4 (zA R4 (zN (zR ?_))))))));cases h;exact ⟨rfl, _, rfl, ⟨(b107, v5), rfl, (pk [1,0,98] rfl)⟩⟩
set_option maxRecDepth 10000 in
theorem tf_c_Range {k : Nat} (hk : 5 ≤ k) {C : List Thing} {c_Book_Signed : Int} {v_c_Book_Gatherings : AV} {c_Book_Gatherings : List Gat} {v_c_Items : AV} {c_Items : List Item} (ht_c_Book_Gatherings : RdT encG v_c_Book_Gatherings c_Book_Gatherings) (ht_c_Items : RdT encIt v_c_Items c_Items) {r : Int × Int × Int} (h : P_c_Range c_Book_Signed c_Book_Gatherings c_Items = some r) :
  TF (EL k) 16 [.agg [iv (c_Book_Signed), v_c_Book_Gatherings, v_c_Items]] C (RepF (fun (w : Unit) => .tuple [.agg [iv r.1, iv r.2.1], iv r.2.2]) (fun (w : Unit) => C)) := by
 unfold P_c_Range at h
 have h_c_Book_Gatherings : Rdl C encG v_c_Book_Gatherings c_Book_Gatherings := RdT.rdl ht_c_Book_Gatherings
 have h_c_Items : Rdl C encIt v_c_Items c_Items := RdT.rdl ht_c_Items;refine TF.enterG (fn := Go.Proofs.Tryz.f16) rfl rfl rfl rfl rfl (zU rfl (zQ 3 [_,_,_] R7 (fun b1=>zJ 2 [_,_] R7 (fun b2=>zA R4 (zN (zU rfl (zV R3 (vW 1 [_,_,_] R5 R4) ?_)))))));obtain ⟨y10, hr10, h⟩ := andx_some h;cases y10 with
 | inl y10 =>
  obtain ⟨y10_2, y10_3, y10_4⟩ := y10;dsimp only at h;obtain ⟨hkn10, h⟩ := chk_some h;refine TO.callT (first := []) (cap := []) (vs := [.agg [iv (c_Book_Signed), v_c_Book_Gatherings, v_c_Items]]) rfl rfl rfl rfl rfl rfl (orcN rfl) (tf_c_open (by first | decide | omega) (Rdl.mono h_c_Book_Gatherings M2) (Rdl.mono h_c_Items M2) hr10) ?_;rintro _;refine zG (_::_::C) rfl (zM R4 (zX R5 (zX R5 (zX R5 (zX R5 (zA R4 (zA R4 (zA R4 (zA R4 (zN (zS (zU rfl (zM R4 ?_)))))))))))));obtain ⟨c16, hc16⟩ := zY (¬ y10_4 = 0);refine zV R3 (Val.neq hc16 rfl rfl) (zN ?_);obtain rfl : c16 = true := hc16.trans (decide_eq_true hkn10);refine zC rfl (zU rfl (zV R3 (Val.buildC (cs := [_, _]) (vs := []) (ws := []) rfl rfl CellsL.nil rfl) (zM R4 (TO.eff0 rfl rfl (Eff.store_row (p := 0) (cv := [_, _]) (cells' := [_, _]) rfl rfl rfl rfl rfl rfl rfl rfl (by first | rfl | (simp [GS.one]; done)) (by decide) rfl) ?_))));rintro _ rfl;refine zG (_::_::C) rfl (zA R4 (zN (zR ?_)));cases h;exact ⟨rfl, _, rfl, [_, _], ⟨⟨_, rfl, LoadR.rows (p := 0) (c := [_, _]) rfl ⟨⟨_, rfl, rfl⟩, rfl, by decide⟩ rfl rfl rfl⟩, ⟨rfl, trivial⟩⟩, ⟨(), rfl, (pk [98,98] rfl)⟩⟩
 | inr y10 =>
  obtain ⟨y10_2, y10_3, y10_4, y10_5, y10_6, y10_7⟩ := y10;dsimp only at h;obtain ⟨hkn10, h⟩ := chk_some h;refine TO.callT (first := []) (cap := []) (vs := [.agg [iv (c_Book_Signed), v_c_Book_Gatherings, v_c_Items]]) rfl rfl rfl rfl rfl rfl (orcN rfl) (tf_c_open (by first | decide | omega) (Rdl.mono h_c_Book_Gatherings M2) (Rdl.mono h_c_Items M2) hr10) ?_;rintro ⟨w10, w10_2⟩;refine zG (_::_::_::_::C) rfl (zM R4 (zX R5 (zX R5 (zX R5 (zX R5 (zA R4 (zA R4 (zA R4 (zA R4 (zN (zS (zU rfl (zM R4 ?_)))))))))))));obtain ⟨c16, hc16⟩ := zY (¬ y10_7 = 0);refine zV R3 (Val.neq hc16 rfl rfl) (zN ?_);obtain rfl : c16 = false := hc16.trans (decide_eq_false (fun x => x hkn10));refine zD rfl (zK (zU rfl (zM R4 ?_)));obtain ⟨⟨y20, y20_2⟩, hr20, h⟩ := andx_some h;dsimp only at h;refine TO.callT (first := []) (cap := []) (vs := [.ptr w10 0 5]) rfl rfl rfl rfl rfl rfl (orcN rfl) (tf_c_wide (by first | decide | omega) (Rdl.mono h_c_Book_Gatherings M4) (Rdl.mono h_c_Items M4) (Rdl.mono (Rdl.gs (C := C) y10_3) M4) (Rdl.mono (Rdl.own (C := .row w10 5 [iv (y10_2), v_c_Book_Gatherings, v_c_Items, y10_3.v, w10_2] :: ownL true w10_2 encI y10_4 :: .row b2 2 [iv (0), iv (0)] :: .row b1 3 [iv (c_Book_Signed), v_c_Book_Gatherings, v_c_Items] :: C) (p := 1) rfl) mem0) (List.mem_of_getElem? (i := 0) rfl) hr20) ?_;rintro _;refine zG (_::_::_::_::C) rfl (TO.eff0 rfl rfl (Eff.store_row (p := 2) (cv := [_, _]) (cells' := [_, _]) rfl rfl rfl rfl rfl rfl rfl rfl (by first | rfl | (simp [GS.one]; done)) (by decide) rfl) ?_);rintro _ rfl;refine zG (_::_::_::_::C) rfl (zA R4 (zN (zR ?_)));cases h;exact ⟨rfl, _, rfl, [_, _], ⟨⟨_, rfl, LoadR.rows (p := 2) (c := [_, _]) rfl ⟨⟨_, rfl, rfl⟩, rfl, by decide⟩ rfl rfl rfl⟩, ⟨rfl, trivial⟩⟩, ⟨(), rfl, (pk [98,98,98,98] rfl)⟩⟩
theorem w_c_Range (c_Book_Signed : Int) (c_Book_Gatherings : GS encG) (c_Items : GS encIt) (r : Int × Int × Int) (h : P_c_Range c_Book_Signed c_Book_Gatherings.l c_Items.l = some r) : Comes (EL 5) 16 [.agg [iv (c_Book_Signed), c_Book_Gatherings.v, c_Items.v]] (.tuple [.agg [iv r.1, iv r.2.1], iv r.2.2]) :=
 TF.run (tf_c_Range (Nat.le_refl _) (RdT.gs c_Book_Gatherings) (RdT.gs c_Items) h) fun w => (.tuple (.cons (.agg (.cons .lit (.cons .lit .nil))) (.cons .lit .nil)))
end Go.Am.YthckcbfijdambaaGreat
end
section
namespace Go.Am
set_option linter.unusedVariables false
noncomputable def P_c_Lost_L2 (y12_3 : GS encL) (y9 : Int → Int) : (Int × (List Int)) → Option (Stp (Int × (List Int)) (List Int)) := fun (x15, l) =>
  if x15 < (y12_3.l.length : Int) then
    andx (
      if (y9 x15) = 0 then
        chk (l.length + [x15].length < 1000000000) (
          some (l ++ [x15]))
      else
        some l) fun l_2 =>
      chk (I64 (x15 + 1)) (
        some (Stp.ag ((x15 + 1), l_2)))
  else
    some (Stp.dn l)
noncomputable def P_c_Lost_L3 (times : Int) (l : List Int) : (Int × (List Int)) → Option (Stp (Int × (List Int)) (Stp (Int × (List Int)) (Int × (List Int)))) := fun (x25, many_2) =>
  if x25 < (l.length : Int) then
    el l x25 fun a27 =>
    el many_2 a27 fun a31 =>
    chk (I64 (a31 + 1)) (
      el many_2 a27 fun a34 =>
      chk (I64 (x25 + 1)) (
        some (Stp.ag ((x25 + 1), List.set many_2 a27.toNat (a31 + 1)))))
  else
    some (Stp.dn (Stp.ag ((times + 1), many_2)))
noncomputable def P_c_Lost_L1 (c_Book_Gatherings : List Gat) (c_Items : List Item) (y12_2 : Int) (y12_3 : GS encL) (y12_4 : List Int) : (Int × (List Int)) → (List Int) → Option (Stp (Int × (List Int)) (Int × (List Int))) := fun (times, many) t =>
  chk (I64 (times + 1)) (
    andx (
      andx (P_c_there y12_2 c_Book_Gatherings c_Items y12_3.l y12_4 t) fun y9 =>
        andx (
          iter (P_c_Lost_L2 y12_3 y9) (0, [])) fun l =>
          some l) fun l =>
      iter (P_c_Lost_L3 times l) (0, many))
noncomputable def P_c_Lost_L4 (times : Int) (many : List Int) : (Int × (List Int) × (List Int)) → Option (Stp (Int × (List Int) × (List Int)) ((List Int) × (List Int))) := fun (x38, sure, may) =>
  if x38 < (many.length : Int) then
    andx (
      el many x38 fun a41 =>
      andx (
        if a41 = times then
          chk (sure.length + [x38].length < 1000000000) (
            some (sure ++ [x38]))
        else
          some sure) fun sure_2 =>
        if a41 > 0 then
          chk (may.length + [x38].length < 1000000000) (
            some (sure_2, may ++ [x38]))
        else
          some (sure_2, may)) fun (sure_2, may_2) =>
      chk (I64 (x38 + 1)) (
        some (Stp.ag ((x38 + 1), sure_2, may_2)))
  else
    some (Stp.dn (sure, may))
noncomputable def P_c_Lost (c_Book_Signed : Int) (c_Book_Gatherings : List Gat) (c_Items : List Item) : Option ((List Int) × (List Int) × Int) :=
  andx (
    andx (P_c_open c_Book_Signed c_Book_Gatherings c_Items) fun y =>
      match y with
      | .inl (y12_2, y12_3, y12_4) =>
        chk (¬ y12_4 = 0) (
          some (y12_4, [], []))
      | .inr (y12_2, y12_3, y12_4, y12_5, y12_6, y12_7) =>
        chk (y12_7 = 0) (
          andx (
            some ()) fun _ =>
            andx (
              chk (0 ≤ (y12_3.l.length : Int) ∧ (y12_3.l.length : Int) ≤ 1000000000) (
                andx (
                  chk (c_Items.length ≤ 120 ∧ ∀ x ∈ c_Items, x.could.l.length ≤ 4) (
                    seqx (foldx (P_c_Lost_L1 c_Book_Gatherings c_Items y12_2 y12_3 y12_4) (truthsOf c_Items) (0, List.replicate (y12_3.l.length : Int).toNat (0 : Int))) fun (times, many) =>
                      some (times, many))) fun (times, many) =>
                  andx (
                    iter (P_c_Lost_L4 times many) (0, [], [])) fun (sure, may) =>
                    some (sure, may))) fun (sure, may) =>
              some (0, may, sure))) fun (y6, nl, nl_2) =>
    some (nl_2, nl, y6)
noncomputable def P_c_Loose_L2 (y12_4 : List Int) (y10 : Int → Int) : (Int × (List Int)) → Option (Stp (Int × (List Int)) (List Int)) := fun (x16, l) =>
  if x16 < (y12_4.length : Int) then
    andx (
      el y12_4 x16 fun a19 =>
      andx (
        if (y10 x16) > 0 then
          if a19 ≥ 0 then
            some (decide ((y10 a19) = 0))
          else
            some false
        else
          some false) fun x34 =>
        if x34 = true then
          chk (l.length + [x16].length < 1000000000) (
            some (l ++ [x16]))
        else
          some l) fun l_2 =>
      chk (I64 (x16 + 1)) (
        some (Stp.ag ((x16 + 1), l_2)))
  else
    some (Stp.dn l)
noncomputable def P_c_Loose_L3 (times : Int) (l : List Int) : (Int × (List Int)) → Option (Stp (Int × (List Int)) (Stp (Int × (List Int)) (Int × (List Int)))) := fun (x25, many_2) =>
  if x25 < (l.length : Int) then
    el l x25 fun a27 =>
    el many_2 a27 fun a31 =>
    chk (I64 (a31 + 1)) (
      el many_2 a27 fun a34 =>
      chk (I64 (x25 + 1)) (
        some (Stp.ag ((x25 + 1), List.set many_2 a27.toNat (a31 + 1)))))
  else
    some (Stp.dn (Stp.ag ((times + 1), many_2)))
noncomputable def P_c_Loose_L1 (c_Book_Gatherings : List Gat) (c_Items : List Item) (y12_2 : Int) (y12_3 : GS encL) (y12_4 : List Int) : (Int × (List Int)) → (List Int) → Option (Stp (Int × (List Int)) (Int × (List Int))) := fun (times, many) t =>
  chk (I64 (times + 1)) (
    andx (
      andx (P_c_there y12_2 c_Book_Gatherings c_Items y12_3.l y12_4 t) fun y10 =>
        andx (
          iter (P_c_Loose_L2 y12_4 y10) (0, [])) fun l =>
          some l) fun l =>
      iter (P_c_Loose_L3 times l) (0, many))
noncomputable def P_c_Loose_L4 (times : Int) (many : List Int) : (Int × (List Int) × (List Int)) → Option (Stp (Int × (List Int) × (List Int)) ((List Int) × (List Int))) := fun (x38, sure, may) =>
  if x38 < (many.length : Int) then
    andx (
      el many x38 fun a41 =>
      andx (
        if a41 = times then
          chk (sure.length + [x38].length < 1000000000) (
            some (sure ++ [x38]))
        else
          some sure) fun sure_2 =>
        if a41 > 0 then
          chk (may.length + [x38].length < 1000000000) (
            some (sure_2, may ++ [x38]))
        else
          some (sure_2, may)) fun (sure_2, may_2) =>
      chk (I64 (x38 + 1)) (
        some (Stp.ag ((x38 + 1), sure_2, may_2)))
  else
    some (Stp.dn (sure, may))
noncomputable def P_c_Loose (c_Book_Signed : Int) (c_Book_Gatherings : List Gat) (c_Items : List Item) : Option ((List Int) × (List Int) × Int) :=
  andx (
    andx (P_c_open c_Book_Signed c_Book_Gatherings c_Items) fun y =>
      match y with
      | .inl (y12_2, y12_3, y12_4) =>
        chk (¬ y12_4 = 0) (
          some (y12_4, [], []))
      | .inr (y12_2, y12_3, y12_4, y12_5, y12_6, y12_7) =>
        chk (y12_7 = 0) (
          andx (
            some ()) fun _ =>
            andx (
              chk (0 ≤ (y12_3.l.length : Int) ∧ (y12_3.l.length : Int) ≤ 1000000000) (
                andx (
                  chk (c_Items.length ≤ 120 ∧ ∀ x ∈ c_Items, x.could.l.length ≤ 4) (
                    seqx (foldx (P_c_Loose_L1 c_Book_Gatherings c_Items y12_2 y12_3 y12_4) (truthsOf c_Items) (0, List.replicate (y12_3.l.length : Int).toNat (0 : Int))) fun (times, many) =>
                      some (times, many))) fun (times, many) =>
                  andx (
                    iter (P_c_Loose_L4 times many) (0, [], [])) fun (sure, may) =>
                    some (sure, may))) fun (sure, may) =>
              some (0, may, sure))) fun (y6, nl, nl_2) =>
    some (nl_2, nl, y6)
end Go.Am
end
section
namespace Go.Am.YthckcbfijdambaaGreat
open Go.Am Go.RowKit
set_option linter.unusedVariables false
set_option linter.unusedSimpArgs false
set_option maxRecDepth 10000 in
theorem tf_c_Lost {k : Nat} (hk : 5 ≤ k) {C : List Thing} {c_Book_Signed : Int} {v_c_Book_Gatherings : AV} {c_Book_Gatherings : List Gat} {v_c_Items : AV} {c_Items : List Item} (ht_c_Book_Gatherings : RdT encG v_c_Book_Gatherings c_Book_Gatherings) (ht_c_Items : RdT encIt v_c_Items c_Items) {r : (List Int) × (List Int) × Int} (h : P_c_Lost c_Book_Signed c_Book_Gatherings c_Items = some r) :
  TF (EL k) 7 [.agg [iv (c_Book_Signed), v_c_Book_Gatherings, v_c_Items]] C (RepF (fun (w : AV × AV) => .tuple [w.1, w.2, iv r.2.2]) (fun (w : AV × AV) => ownL true w.1 encI r.1 :: ownL true w.2 encI r.2.1 :: C)) := by
 unfold P_c_Lost at h
 have h_c_Book_Gatherings : Rdl C encG v_c_Book_Gatherings c_Book_Gatherings := RdT.rdl ht_c_Book_Gatherings
 have h_c_Items : Rdl C encIt v_c_Items c_Items := RdT.rdl ht_c_Items;refine TF.enter (fn := Go.Proofs.Tryz.f7) rfl rfl rfl rfl rfl (zU rfl (zQ 3 [_,_,_] R7 (fun b1=>zA R4 (zA R4 (zA R4 (zN (zU rfl (zV R3 (vW 0 [_,_,_] R5 R4) ?_))))))));refine TO.callJ (W := AV × AV) (fun (j : Int × (List Int) × (List Int)) (w : AV × AV) => .tuple [w.2, w.1, iv (j.1)]) (fun (j : Int × (List Int) × (List Int)) (w : AV × AV) => ownL true w.1 encI j.2.1 :: ownL true w.2 encI j.2.2 :: .row b1 3 [iv (c_Book_Signed), v_c_Book_Gatherings, v_c_Items] :: C) h rfl rfl rfl rfl rfl rfl (orcN rfl) ?_ ?_
 ·intro j h;refine TF.enter (fn := Go.Proofs.Tryz.f34) rfl rfl rfl rfl rfl (zU rfl (zQ 3 [_,_,_] R7 (fun b2=>zQ 1 [_] R7 (fun b3=>zA R4 (zA R4 (zA R4 (zN (zU rfl (zV R3 (vW 1 [_,_,_] R5 R4) ?_)))))))));obtain ⟨y12, hr12, h⟩ := andx_some h;cases y12 with
  | inl y12 =>
   obtain ⟨y12_2, y12_3, y12_4⟩ := y12;dsimp only at h;obtain ⟨hkn12, h⟩ := chk_some h;refine TO.callT (first := []) (cap := []) (vs := [.agg [iv (c_Book_Signed), v_c_Book_Gatherings, v_c_Items]]) rfl rfl rfl rfl rfl rfl (orcN rfl) (tf_c_open (by first | decide | omega) (Rdl.mono h_c_Book_Gatherings M3) (Rdl.mono h_c_Items M3) hr12) ?_;rintro _;refine zG (_::_::_::C) rfl (zM R4 (zX R5 (zX R5 (zX R5 (zX R5 (zJ 1 [_] R7 (fun b7=>TO.eff0 rfl rfl (Eff.store_row (p := 0) (cv := [_]) (cells' := [_]) rfl rfl rfl rfl rfl rfl rfl rfl (by first | rfl | (simp [GS.one]; done)) (by decide) rfl) ?_)))))));rintro _ rfl;refine zG (_::_::_::_::C) rfl (zA R4 (zA R4 (zA R4 (zN (zS (zU rfl (zM R4 ?_)))))));obtain ⟨c18, hc18⟩ := zY (¬ y12_4 = 0);refine zV R3 (Val.neq hc18 rfl rfl) (zN ?_);obtain rfl : c18 = true := hc18.trans (decide_eq_true hkn12);refine zC rfl (zU rfl (zM R4 (zA R4 (zA R4 (zA R4 (zN (T.nilown (u := encI.u) (T.nilown (u := encI.u) (zR ?_)))))))));cases h;exact ⟨rfl, _, rfl, ⟨(nilS, nilS), rfl, (pk [0,0,3,98,98,98] rfl)⟩⟩
  | inr y12 =>
   obtain ⟨y12_2, y12_3, y12_4, y12_5, y12_6, y12_7⟩ := y12;dsimp only at h;obtain ⟨hkn12, h⟩ := chk_some h;refine TO.callT (first := []) (cap := []) (vs := [.agg [iv (c_Book_Signed), v_c_Book_Gatherings, v_c_Items]]) rfl rfl rfl rfl rfl rfl (orcN rfl) (tf_c_open (by first | decide | omega) (Rdl.mono h_c_Book_Gatherings M3) (Rdl.mono h_c_Items M3) hr12) ?_;rintro ⟨w12, w12_2⟩;refine zG (_::_::_::_::_::C) rfl (zM R4 (zX R5 (zX R5 (zX R5 (zX R5 (zJ 1 [_] R7 (fun b7=>TO.eff0 rfl rfl (Eff.store_row (p := 0) (cv := [_]) (cells' := [_]) rfl rfl rfl rfl rfl rfl rfl rfl (by first | rfl | (simp [GS.one]; done)) (by decide) rfl) ?_)))))));rintro _ rfl;refine zG (_::_::_::_::_::_::C) rfl (zA R4 (zA R4 (zA R4 (zN (zS (zU rfl (zM R4 ?_)))))));obtain ⟨c18, hc18⟩ := zY (¬ y12_7 = 0);refine zV R3 (Val.neq hc18 rfl rfl) (zN ?_);obtain rfl : c18 = false := hc18.trans (decide_eq_false (fun x => x hkn12));refine zD rfl (zK (zS (T.drawE (l1 := [0, 2, 3, 4, 5, 6, 7]) (l2 := [1, 8, 9, 10, 11, 12, 13]) (by kernel_rfl) (by kernel_rfl) (yR R4 (vR (p := 0) R6) (yL R4 (Val.makeFunc rfl rfl) (yR R4 (vR (p := 0) R6) (yL R4 (Val.nil_ptr rfl) (yL R4 (Val.faddr_ptr (fo := 3) rfl rfl rfl) (yR R4 (vR (p := 1) R6) (yR R4 (Val.len_gs rfl rfl) (TD1.over (fun v => sameC_refl v) (all_cons (⟨_, rfl, (Val.len_gs rfl rfl)⟩) (all_cons (⟨_, rfl, (vR (p := 1) R6)⟩) (all_cons (⟨_, rfl, (vR (p := 0) R6)⟩) (all_cons (⟨_, rfl, (vR (p := 0) R6)⟩) all_nil)))) ?_)))))))))));refine TD2.callJ (fun v => sameC_refl v) (W := Nat) (fun (j : Unit) (w : Nat) => .func 74 [] [.ptr w 0 1]) (fun (j : Unit) (w : Nat) => .row w 1 [.ptr w12 0 5] :: .row b7 1 [.ptr w12 0 5] :: .row w12 5 [iv (y12_2), v_c_Book_Gatherings, v_c_Items, y12_3.v, w12_2] :: ownL true w12_2 encI y12_4 :: .row b3 1 [.func 35 [] []] :: .row b2 3 [iv (c_Book_Signed), v_c_Book_Gatherings, v_c_Items] :: .row b1 3 [iv (c_Book_Signed), v_c_Book_Gatherings, v_c_Items] :: C) h rfl (by decide) rfl rfl rfl rfl rfl (orcN rfl) ?_ ?_
   ·intro j h;refine TF.enter (fn := Go.Proofs.Tryz.f54) rfl rfl rfl rfl rfl (zU rfl (zQ 1 [_] R7 (fun b1_2=>zA R4 (zN (zU rfl (zV R3 (Val.makeFunc rfl rfl) (zA R4 (zN (zR ?_)))))))));cases h;exact ⟨rfl, _, rfl, ⟨b1_2, rfl, .refl⟩⟩
   ·rintro _ id10 h;refine ⟨(all_cons (.inr ⟨_, rfl, (Val.len_gs rfl rfl)⟩) (all_cons (.inr ⟨_, rfl, (vR (p := 2) R6)⟩) (all_cons (.inr ⟨_, rfl, (vR (p := 1) R6)⟩) (all_cons (.inl (by kernel_rfl)) all_nil)))), all_nil, ?_⟩;refine yG (_::_::_::_::_::_::_::C) rfl ?_;refine TD2.callJ (fun v => sameC_refl v) (W := AV × AV) (fun (j : (List Int) × (List Int)) (w : AV × AV) => .tuple [w.1, w.2]) (fun (j : (List Int) × (List Int)) (w : AV × AV) => ownL true w.1 encI j.1 :: ownL true w.2 encI j.2 :: .row id10 1 [.ptr w12 0 5] :: .row b7 1 [.ptr w12 0 5] :: .row w12 5 [iv (y12_2), v_c_Book_Gatherings, v_c_Items, y12_3.v, w12_2] :: ownL true w12_2 encI y12_4 :: .row b3 1 [.func 35 [] []] :: .row b2 3 [iv (c_Book_Signed), v_c_Book_Gatherings, v_c_Items] :: .row b1 3 [iv (c_Book_Signed), v_c_Book_Gatherings, v_c_Items] :: C) h rfl (by decide) rfl rfl rfl rfl rfl (orcN rfl) ?_ ?_
    ·intro j h;refine TF.enterG (fn := Go.Proofs.Tryz.f62) rfl rfl rfl rfl rfl (zU rfl (zQ 1 [_] R7 (fun b4=>zA R4 (zA R4 (zN (zU rfl (zM R4 ?_)))))));obtain ⟨hk16, h⟩ := chk_some h;refine TO.makeE (en := encI) (0) (b := 8) rfl rfl rfl ⟨rfl, rfl⟩ rfl rfl rfl rfl rfl hk16 (by decide) (fun v16=>zJ 1 [_] R7 (fun b8=>zJ 1 [_] R7 (fun b9=>TO.fact (own_cellS (p := 2) rfl) (fun hot12=>TO.eff0 rfl rfl (Eff.store_row (p := 1) (cv := [_]) (cells' := [_]) rfl rfl rfl rfl rfl hot12.1 rfl rfl (by first | rfl | (simp [GS.one, hot12.2]; done)) (by decide) rfl) ?_))));rintro _ rfl;refine zG (_::_::_::_::_::_::_::_::_::_::_::C) rfl (TO.eff0 rfl rfl (Eff.store_row (p := 0) (cv := [_]) (cells' := [_]) rfl rfl rfl rfl rfl rfl rfl rfl (by first | rfl | (simp [GS.one]; done)) (by decide) rfl) ?_);rintro _ rfl;refine zG (_::_::_::_::_::_::_::_::_::_::_::C) rfl (zN ?_)
     show T _ _ _ _ _ _;apply T.joinA (r := j) (W := Nat) (fun (j : Int × (List Int)) (w : Nat) => ⟨[w], [(6, nilS), (7, nilS), (8, .ptr b8 0 1), (9, .ptr b9 0 1)], .obj w (.dfr true) :: .row b9 1 [iv (j.1)] :: .row b8 1 [v16] :: ownL false v16 encI j.2 :: .row b4 1 [.func 63 [] [.ptr b3 0 1, .ptr b7 0 1]] :: .row id10 1 [.ptr w12 0 5] :: .row b7 1 [.ptr w12 0 5] :: .row w12 5 [iv (y12_2), v_c_Book_Gatherings, v_c_Items, y12_3.v, w12_2] :: ownL true w12_2 encI y12_4 :: .row b3 1 [.func 35 [] []] :: .row b2 3 [iv (c_Book_Signed), v_c_Book_Gatherings, v_c_Items] :: .row b1 3 [iv (c_Book_Signed), v_c_Book_Gatherings, v_c_Items] :: C⟩) h
     ·intro j h;refine zU rfl (zM R4 (zN (zB ?_)));obtain ⟨hkR1, h⟩ := chk_some h
      show T _ _ _ _ _ _;apply T.rangeP (r := j) (W := Unit) (w0 := ()) ArgT (fun (j : Int × (List Int)) (w : Unit) => [.row b9 1 [iv (j.1)], .row b8 1 [v16], ownL false v16 encI j.2]) (.row b4 1 [.func 63 [] [.ptr b3 0 1, .ptr b7 0 1]] :: .row id10 1 [.ptr w12 0 5] :: .row b7 1 [.ptr w12 0 5] :: .row w12 5 [iv (y12_2), v_c_Book_Gatherings, v_c_Items, y12_3.v, w12_2] :: ownL true w12_2 encI y12_4 :: .row b3 1 [.func 35 [] []] :: .row b2 3 [iv (c_Book_Signed), v_c_Book_Gatherings, v_c_Items] :: .row b1 3 [iv (c_Book_Signed), v_c_Book_Gatherings, v_c_Items] :: C) h
      ·rfl
      ·rfl
      ·rfl
      ·exact .refl
      ·exact tr_yields (List.mem_of_getElem? (i := 1) rfl) (List.mem_of_getElem? (i := 3) rfl) (Rdl.mono h_c_Items M8) hkR1
      ·rintro l1 d ⟨times, many⟩ _ t vs G F1 ans hmem harg hD hG h;unfold P_c_Lost_L1 at h;dsimp only at h;obtain ⟨v_t, rfl, rfl⟩ := harg
       have h_t : Rdl F1 encI v_t t := .inr ⟨false, hG _ (by simp)⟩
       have hCF : ∀ x ∈ C, x ∈ F1 := fun x hx => hD x (memS M7 x hx)
       replace h_c_Book_Gatherings := Rdl.mono h_c_Book_Gatherings hCF;replace h_c_Items := Rdl.mono h_c_Items hCF
       have hu1_t8 : Rdl F1 encI w12_2 y12_4 := .inr ⟨true, (hD _ (List.mem_of_getElem? (i := 4) rfl))⟩
       have hu1_t7 : Thing.row w12 5 [iv (y12_2), v_c_Book_Gatherings, v_c_Items, y12_3.v, w12_2] ∈ F1 := (hD _ (List.mem_of_getElem? (i := 3) rfl))
       have hu1_t3 : Thing.row b3 1 [.func 35 [] []] ∈ F1 := (hD _ (List.mem_of_getElem? (i := 5) rfl))
       have hu1_t2 : Thing.row b2 3 [iv (c_Book_Signed), v_c_Book_Gatherings, v_c_Items] ∈ F1 := (hD _ (List.mem_of_getElem? (i := 6) rfl))
       have hu1_t1 : Thing.row b1 3 [iv (c_Book_Signed), v_c_Book_Gatherings, v_c_Items] ∈ F1 := (hD _ (List.mem_of_getElem? (i := 7) rfl))
       have hu1_t10 : Thing.row id10 1 [.ptr w12 0 5] ∈ F1 := (hD _ (List.mem_of_getElem? (i := 1) rfl))
       have hu1_t9 : Thing.row b7 1 [.ptr w12 0 5] ∈ F1 := (hD _ (List.mem_of_getElem? (i := 2) rfl))
       have hu1_t11 : Thing.row b4 1 [.func 63 [] [.ptr b3 0 1, .ptr b7 0 1]] ∈ F1 := (hD _ (List.mem_of_getElem? (i := 0) rfl));refine ⟨_, rfl, fun LR1 LB1 hLB1 => ?_⟩;refine T.things (hs' := LR1 :: .row b9 1 [iv (times)] :: .row b8 1 [v16] :: ownL false v16 encI many :: F1) rfl (zT rfl (zA R4 (zN ?_)));refine ⟨rfl, 0, rfl, ?_⟩;refine T.things (hs' := LB1 :: .row b9 1 [iv (times)] :: .row b8 1 [v16] :: ownL false v16 encI many :: F1) rfl (zB (zU rfl (zL 1 R3 R6 ?_)));obtain ⟨hk20, h⟩ := chk_some h;refine zV R3 (Val.add rfl rfl hk20) (TO.eff0 rfl rfl (Eff.store_row (p := 1) (cv := [_]) (cells' := [_]) rfl rfl rfl rfl rfl rfl rfl rfl (by first | rfl | (simp [GS.one]; done)) (by decide) rfl) ?_);rintro _ rfl;refine zG (_::_::_::_::F1) rfl (zN (zU rfl (zV R3 (Val.load_rowM hu1_t11 M4 ⟨_, rfl, rfl⟩ rfl rfl rfl) (zM R4 (TO.callIn rfl rfl rfl rfl rfl rfl (orcN rfl) (TF.enter (fn := Go.Proofs.Tryz.f63) rfl rfl rfl rfl rfl (zU rfl (zA R4 (zN (zU rfl (zV R3 (Val.load_rowM hu1_t3 M4 ⟨_, rfl, rfl⟩ rfl rfl rfl) (zV R3 (Val.load_rowM hu1_t9 M4 ⟨_, rfl, rfl⟩ rfl rfl rfl) (zM R4 ?_)))))))))))));refine TO.callJ (W := AV) (fun (j : (List Int)) (w : AV) => w) (fun (j : (List Int)) (w : AV) => ownL true w encI j :: LB1 :: .row b9 1 [iv ((times + 1))] :: .row b8 1 [v16] :: ownL false v16 encI many :: F1) h rfl rfl rfl rfl rfl rfl (orcN rfl) ?_ ?_
       ·intro j h;refine TF.enter (fn := Go.Proofs.Tryz.f35) rfl rfl rfl rfl rfl (zU rfl (zA R4 (zN (zU rfl (zM R4 (zM R4 ?_))))));obtain ⟨y9, hr9, h⟩ := andx_some h;refine TO.callT (first := []) (cap := []) (vs := [.ptr w12 0 5, v_t]) rfl rfl rfl rfl rfl rfl (orcN rfl) (tf_c_there (by first | decide | omega) (Rdl.mono h_c_Book_Gatherings M4) (Rdl.mono h_c_Items M4) (Rdl.mono (Rdl.gs (C := F1) y12_3) M4) (Rdl.mono hu1_t8 M4) (M4 _ hu1_t7) (Rdl.mono h_t M4) hr9) ?_;rintro w9;refine zG (_::_::_::_::_::F1) rfl (zA R4 (zN ?_))
        show T _ _ _ _ _ _;apply T.joinA (r := j) (W := AV) (fun (j : (List Int)) (w : AV) => ⟨[], [(4, w)], ownL true w encI j :: .cnt w9 KInt (cntI y9) [] :: LB1 :: .row b9 1 [iv ((times + 1))] :: .row b8 1 [v16] :: ownL false v16 encI many :: F1⟩) h
        ·intro j h;refine zU rfl (zM R4 (zV R3 (Val.nil_ptr rfl) (zF 3 R6 (zV R3 (Val.load_rowM hu1_t7 M5 ⟨_, rfl, rfl⟩ rfl rfl rfl) (zV R3 (Val.len_gs rfl rfl) (zM R4 (zN (zB (T.nilown (u := encI.u) ?_)))))))))
         show T _ _ _ _ _ _;apply T.iter (r := j) (W := AV) (fun (j : Int × (List Int)) (w : AV) => ⟨[], [(4, w), (5, .map w9), (14, iv ((y12_3.l.length : Int))), (15, iv (j.1))], ownL true w encI j.2 :: .cnt w9 KInt (cntI y9) [] :: LB1 :: .row b9 1 [iv ((times + 1))] :: .row b8 1 [v16] :: ownL false v16 encI many :: F1⟩) (w0 := nilS) h
         ·exact (sb .refl)
         rintro ⟨x15, l⟩ v16_2 a h;unfold P_c_Lost_L2 at h;dsimp only at h;refine zH ⟨[], [(4, v16_2), (5, .map w9), (14, iv ((y12_3.l.length : Int))), (15, iv (x15))], ownL true v16_2 encI l :: .cnt w9 KInt (cntI y9) [] :: LB1 :: .row b9 1 [iv ((times + 1))] :: .row b8 1 [v16] :: ownL false v16 encI many :: F1⟩ rfl (zU rfl ?_);obtain ⟨c16, hc16⟩ := zY (x15 < (y12_3.l.length : Int));refine zV R3 (Val.lss hc16 rfl rfl) (zN (zS ?_));obtain ⟨rfl, hc16, h⟩ | ⟨rfl, hc16, h⟩ := zI hc16 h
         ·refine zC rfl (zK ?_)
          show T _ _ _ _ _ _;apply T.joinA (r := a) (W := AV) (fun (j : (List Int)) (w : AV) => ⟨[], [(4, w), (5, .map w9), (14, iv ((y12_3.l.length : Int))), (15, iv (x15))], ownL true w encI j :: .cnt w9 KInt (cntI y9) [] :: LB1 :: .row b9 1 [iv ((times + 1))] :: .row b8 1 [v16] :: ownL false v16 encI many :: F1⟩) h
          ·intro j h;refine zB (zU rfl (zM R4 (zA R4 (zN (zU rfl (zM R4 (zM R4 (zV R3 (Val.lookupI (p := 1) rfl rfl key_ty3 rfl rfl rfl) ?_))))))));obtain ⟨c21, hc21⟩ := zY ((y9 x15) = 0);refine zV R3 (Val.eql hc21 rfl rfl) (zN ?_);obtain ⟨rfl, hc21, h⟩ | ⟨rfl, hc21, h⟩ := zI hc21 h
           ·refine zC rfl (zT rfl (zM R4 (zM R4 (TO.build1 (en := encI) (a := x15) rfl rfl rfl ⟨rfl, rfl⟩ ⟨_, rfl, rfl⟩ (by decide) (by decide) rfl rfl (fun v24=>?_)))));obtain ⟨hk25, h⟩ := chk_some h;refine TO.eff rfl rfl rfl (Eff.append_own (b := 8) (en := encI) (l := l) (l2 := [x15]) (p := 1) (q := 0) ⟨rfl, rfl, rfl, ⟨_, rfl, rfl⟩, by decide, by decide⟩ rfl rfl rfl rfl rfl rfl (flat_ones _) (by decide) hk25) ?_;rintro v25 _ rfl;refine zG (_::_::_::_::_::_::_::F1) rfl (zA R4 (zN ?_));cases h;exact ⟨rfl, v25, (sb (pk [1,1,1,1,1,1,98] rfl))⟩
           refine zD rfl (zK ?_);cases h;exact ⟨rfl, v16_2, (sb .refl)⟩
          ·rintro l_2 v16_3 h;refine zH ⟨[], [(4, v16_3), (5, .map w9), (14, iv ((y12_3.l.length : Int))), (15, iv (x15))], ownL true v16_3 encI l_2 :: .cnt w9 KInt (cntI y9) [] :: LB1 :: .row b9 1 [iv ((times + 1))] :: .row b8 1 [v16] :: ownL false v16 encI many :: F1⟩ rfl (zT rfl ?_);obtain ⟨hk26, h⟩ := chk_some h;refine zV R3 (Val.add rfl rfl hk26) (zM R4 (zN ?_));cases h;exact ⟨rfl, v16_3, (sb .refl)⟩
         refine zD rfl (zE ?_);cases h;exact ⟨ex_ne, ⟨rfl, v16_2, (sb .refl)⟩⟩
        ·rintro l v16_2 h;refine zH ⟨[], [(4, v16_2)], ownL true v16_2 encI l :: .cnt w9 KInt (cntI y9) [] :: LB1 :: .row b9 1 [iv ((times + 1))] :: .row b8 1 [v16] :: ownL false v16 encI many :: F1⟩ rfl (zU rfl (zM R4 (zA R4 (zN (zR ?_)))));cases h;exact ⟨rfl, _, rfl, ⟨v16_2, rfl, (pk [0,1,1,1,1,98] rfl)⟩⟩
       ·rintro l v18 h;refine zG (_::_::_::_::_::F1) rfl (zA R4 (zN (zR ?_)));refine ⟨rfl, _, rfl, ?_⟩;refine zV R3 (Val.len_own (p := 0) rfl rfl rfl) (zM R4 (zN (zB ?_)))
        show T _ _ _ _ _ _;apply T.iter (r := ans) (W := Unit) (fun (j : Int × (List Int)) (w : Unit) => ⟨[], [(8, .ptr b8 0 1), (23, v18), (24, iv ((l.length : Int))), (25, iv (j.1))], ownL true v18 encI l :: LB1 :: .row b9 1 [iv ((times + 1))] :: .row b8 1 [v16] :: ownL false v16 encI j.2 :: F1⟩) (w0 := ()) h
        ·exact (sb .refl)
        rintro ⟨x25, many_2⟩ _ a h;unfold P_c_Lost_L3 at h;dsimp only at h;refine zH ⟨[], [(8, .ptr b8 0 1), (23, v18), (24, iv ((l.length : Int))), (25, iv (x25))], ownL true v18 encI l :: LB1 :: .row b9 1 [iv ((times + 1))] :: .row b8 1 [v16] :: ownL false v16 encI many_2 :: F1⟩ rfl (zU rfl ?_);obtain ⟨c26, hc26⟩ := zY (x25 < (l.length : Int));refine zV R3 (Val.lss hc26 rfl rfl) (zN (zS ?_));obtain ⟨rfl, hc26, h⟩ | ⟨rfl, hc26, h⟩ := zI hc26 h
        ·refine zC rfl (zK (zS (zB (zU rfl ?_))));obtain ⟨a27, hia27, ea27, h⟩ := el_some h;refine TO.fact (own_at (en := encI) (p := 0) rfl hia27) (fun hp=>?_);obtain ⟨ida27, ata27⟩ := hp;refine zV R3 (Val.iaddr_at (en := encI) ata27 ⟨rfl, rfl⟩ rfl rfl hia27) (zV R3 (Val.load_ownL (en := encI) (p := 0) (j := 0) rfl ata27 ⟨_, rfl, rfl⟩ rfl ea27 rfl) (zA R4 (zN (zT rfl (zL 3 R3 R6 (zM R4 ?_))))));obtain ⟨a31, hia31, ea31, h⟩ := el_some h;refine TO.fact (own_at (en := encI) (p := 4) rfl hia31) (fun hp=>?_);obtain ⟨ida31, ata31⟩ := hp;refine zV R3 (Val.iaddr_at (en := encI) ata31 ⟨rfl, rfl⟩ rfl rfl hia31) (zV R3 (Val.load_ownL (en := encI) (p := 4) (j := 0) rfl ata31 ⟨_, rfl, rfl⟩ rfl ea31 rfl) ?_);obtain ⟨hk33, h⟩ := chk_some h;refine zV R3 (Val.add rfl rfl hk33) ?_;obtain ⟨a34, hia34, ea34, h⟩ := el_some h;refine TO.fact (own_at (en := encI) (p := 4) rfl hia34) (fun hp=>?_);obtain ⟨ida34, ata34⟩ := hp;refine zV R3 (Val.iaddr_at (en := encI) ata34 ⟨rfl, rfl⟩ rfl rfl hia34) (TO.eff0 rfl rfl (Eff.store_ownE (en := encI) (p := 4) (a := a34) (a' := (a31 + 1)) (j := 0) (cv := [_]) rfl ata34 ea34 rfl rfl (by decide) rfl rfl rfl rfl (by first | rfl | (simp [GS.one]; done)) rfl) ?_);rintro _ rfl;refine zG (_::_::_::_::_::F1) rfl (zN (zT rfl ?_));obtain ⟨hk35, h⟩ := chk_some h;refine zV R3 (Val.add rfl rfl hk35) (zM R4 (zN ?_));cases h;exact ⟨rfl, (), (sb .refl)⟩
        refine zD rfl (zE ?_);cases h;exact ⟨ex_ne, ⟨rfl, (), (pk [1,1,1,1,98] rfl)⟩⟩
      ·rintro d ⟨times, many⟩ _ h;dsimp only at h;cases h;exact ⟨rfl, d, (sb .refl)⟩
     ·rintro ⟨times, many⟩ iddfr1 h;dsimp only at h;refine zH ⟨[iddfr1], [(6, nilS), (7, nilS), (8, .ptr b8 0 1), (9, .ptr b9 0 1)], .obj iddfr1 (.dfr true) :: .row b9 1 [iv (times)] :: .row b8 1 [v16] :: ownL false v16 encI many :: .row b4 1 [.func 63 [] [.ptr b3 0 1, .ptr b7 0 1]] :: .row id10 1 [.ptr w12 0 5] :: .row b7 1 [.ptr w12 0 5] :: .row w12 5 [iv (y12_2), v_c_Book_Gatherings, v_c_Items, y12_3.v, w12_2] :: ownL true w12_2 encI y12_4 :: .row b3 1 [.func 35 [] []] :: .row b2 3 [iv (c_Book_Signed), v_c_Book_Gatherings, v_c_Items] :: .row b1 3 [iv (c_Book_Signed), v_c_Book_Gatherings, v_c_Items] :: C⟩ rfl ?_
      show T _ _ _ _ _ _;apply T.joinA (r := j) (W := AV × AV) (fun (j : (List Int) × (List Int)) (w : AV × AV) => ⟨[iddfr1], [(6, w.1), (7, w.2)], ownL true w.1 encI j.1 :: ownL true w.2 encI j.2 :: .obj iddfr1 (.dfr true) :: .row b9 1 [iv (times)] :: ownL false v16 encI many :: .row id10 1 [.ptr w12 0 5] :: .row b7 1 [.ptr w12 0 5] :: .row w12 5 [iv (y12_2), v_c_Book_Gatherings, v_c_Items, y12_3.v, w12_2] :: ownL true w12_2 encI y12_4 :: .row b3 1 [.func 35 [] []] :: .row b2 3 [iv (c_Book_Signed), v_c_Book_Gatherings, v_c_Items] :: .row b1 3 [iv (c_Book_Signed), v_c_Book_Gatherings, v_c_Items] :: C⟩) h
      ·intro j h;refine zU rfl (zL 2 R3 R6 (zV R3 (Val.len_own (p := 3) rfl rfl rfl) (zM R4 (zN (zB (T.nilown (u := encI.u) (T.nilown (u := encI.u) ?_)))))))
       show T _ _ _ _ _ _;apply T.iter (r := j) (W := AV × AV) (fun (j : Int × (List Int) × (List Int)) (w : AV × AV) => ⟨[iddfr1], [(6, w.1), (7, w.2), (9, .ptr b9 0 1), (36, v16), (37, iv ((many.length : Int))), (38, iv (j.1))], ownL true w.1 encI j.2.1 :: ownL true w.2 encI j.2.2 :: .obj iddfr1 (.dfr true) :: .row b9 1 [iv (times)] :: ownL false v16 encI many :: .row id10 1 [.ptr w12 0 5] :: .row b7 1 [.ptr w12 0 5] :: .row w12 5 [iv (y12_2), v_c_Book_Gatherings, v_c_Items, y12_3.v, w12_2] :: ownL true w12_2 encI y12_4 :: .row b3 1 [.func 35 [] []] :: .row b2 3 [iv (c_Book_Signed), v_c_Book_Gatherings, v_c_Items] :: .row b1 3 [iv (c_Book_Signed), v_c_Book_Gatherings, v_c_Items] :: C⟩) (w0 := (nilS, nilS)) h
       ·exact (sb (pk [0,0,0,0,1,2,2,2,2,2,2,2,98,98] rfl))
       rintro ⟨x38, sure, may⟩ ⟨v20, v19⟩ a h;unfold P_c_Lost_L4 at h;dsimp only at h;refine zH ⟨[iddfr1], [(6, v20), (7, v19), (9, .ptr b9 0 1), (36, v16), (37, iv ((many.length : Int))), (38, iv (x38))], ownL true v20 encI sure :: ownL true v19 encI may :: .obj iddfr1 (.dfr true) :: .row b9 1 [iv (times)] :: ownL false v16 encI many :: .row id10 1 [.ptr w12 0 5] :: .row b7 1 [.ptr w12 0 5] :: .row w12 5 [iv (y12_2), v_c_Book_Gatherings, v_c_Items, y12_3.v, w12_2] :: ownL true w12_2 encI y12_4 :: .row b3 1 [.func 35 [] []] :: .row b2 3 [iv (c_Book_Signed), v_c_Book_Gatherings, v_c_Items] :: .row b1 3 [iv (c_Book_Signed), v_c_Book_Gatherings, v_c_Items] :: C⟩ rfl (zU rfl ?_);obtain ⟨c39, hc39⟩ := zY (x38 < (many.length : Int));refine zV R3 (Val.lss hc39 rfl rfl) (zN (zS ?_));obtain ⟨rfl, hc39, h⟩ | ⟨rfl, hc39, h⟩ := zI hc39 h
       ·refine zC rfl (zK ?_)
        show T _ _ _ _ _ _;apply T.joinA (r := a) (W := AV × AV) (fun (j : (List Int) × (List Int)) (w : AV × AV) => ⟨[iddfr1], [(6, w.1), (7, w.2), (9, .ptr b9 0 1), (36, v16), (37, iv ((many.length : Int))), (38, iv (x38))], ownL true w.1 encI j.1 :: ownL true w.2 encI j.2 :: .obj iddfr1 (.dfr true) :: .row b9 1 [iv (times)] :: ownL false v16 encI many :: .row id10 1 [.ptr w12 0 5] :: .row b7 1 [.ptr w12 0 5] :: .row w12 5 [iv (y12_2), v_c_Book_Gatherings, v_c_Items, y12_3.v, w12_2] :: ownL true w12_2 encI y12_4 :: .row b3 1 [.func 35 [] []] :: .row b2 3 [iv (c_Book_Signed), v_c_Book_Gatherings, v_c_Items] :: .row b1 3 [iv (c_Book_Signed), v_c_Book_Gatherings, v_c_Items] :: C⟩) h
        ·intro j h;refine zB (zU rfl (zM R4 ?_));obtain ⟨a41, hia41, ea41, h⟩ := el_some h;refine TO.fact (own_at (en := encI) (p := 4) rfl hia41) (fun hp=>?_);obtain ⟨ida41, ata41⟩ := hp;refine zV R3 (Val.iaddr_at (en := encI) ata41 ⟨rfl, rfl⟩ rfl rfl hia41) (zV R3 (Val.load_ownL (en := encI) (p := 4) (j := 0) rfl ata41 ⟨_, rfl, rfl⟩ rfl ea41 rfl) (zA R4 (zA R4 (zN ?_))))
         show T _ _ _ _ _ _;apply T.joinA (r := j) (W := AV) (fun (j : (List Int)) (w : AV) => ⟨[iddfr1], [(6, w), (7, v19), (9, .ptr b9 0 1), (13, iv (x38)), (14, iv (a41)), (36, v16), (37, iv ((many.length : Int))), (38, iv (x38))], ownL true w encI j :: ownL true v19 encI may :: .obj iddfr1 (.dfr true) :: .row b9 1 [iv (times)] :: ownL false v16 encI many :: .row id10 1 [.ptr w12 0 5] :: .row b7 1 [.ptr w12 0 5] :: .row w12 5 [iv (y12_2), v_c_Book_Gatherings, v_c_Items, y12_3.v, w12_2] :: ownL true w12_2 encI y12_4 :: .row b3 1 [.func 35 [] []] :: .row b2 3 [iv (c_Book_Signed), v_c_Book_Gatherings, v_c_Items] :: .row b1 3 [iv (c_Book_Signed), v_c_Book_Gatherings, v_c_Items] :: C⟩) h
         ·intro j h;refine zU rfl (zM R4 (zL 3 R3 R6 ?_));obtain ⟨c45, hc45⟩ := zY (a41 = times);refine zV R3 (Val.eql hc45 rfl rfl) (zN ?_);obtain ⟨rfl, hc45, h⟩ | ⟨rfl, hc45, h⟩ := zI hc45 h
          ·refine zC rfl (zT rfl (zM R4 (zM R4 (TO.build1 (en := encI) (a := x38) rfl rfl rfl ⟨rfl, rfl⟩ ⟨_, rfl, rfl⟩ (by decide) (by decide) rfl rfl (fun v48=>?_)))));obtain ⟨hk49, h⟩ := chk_some h;refine TO.eff rfl rfl rfl (Eff.append_own (b := 8) (en := encI) (l := sure) (l2 := [x38]) (p := 1) (q := 0) ⟨rfl, rfl, rfl, ⟨_, rfl, rfl⟩, by decide, by decide⟩ rfl rfl rfl rfl rfl rfl (flat_ones _) (by decide) hk49) ?_;rintro v49 _ rfl;refine zG (_::_::_::_::_::_::_::_::_::_::_::_::_::C) rfl (zA R4 (zN ?_));cases h;exact ⟨rfl, v49, (sb (pk [1,1,1,1,1,1,1,1,1,1,1,1,98] rfl))⟩
          refine zD rfl (zK ?_);cases h;exact ⟨rfl, v20, (sb .refl)⟩
         ·rintro sure_2 v20_2 h;refine zH ⟨[iddfr1], [(6, v20_2), (7, v19), (9, .ptr b9 0 1), (13, iv (x38)), (14, iv (a41)), (36, v16), (37, iv ((many.length : Int))), (38, iv (x38))], ownL true v20_2 encI sure_2 :: ownL true v19 encI may :: .obj iddfr1 (.dfr true) :: .row b9 1 [iv (times)] :: ownL false v16 encI many :: .row id10 1 [.ptr w12 0 5] :: .row b7 1 [.ptr w12 0 5] :: .row w12 5 [iv (y12_2), v_c_Book_Gatherings, v_c_Items, y12_3.v, w12_2] :: ownL true w12_2 encI y12_4 :: .row b3 1 [.func 35 [] []] :: .row b2 3 [iv (c_Book_Signed), v_c_Book_Gatherings, v_c_Items] :: .row b1 3 [iv (c_Book_Signed), v_c_Book_Gatherings, v_c_Items] :: C⟩ rfl (zU rfl (zM R4 ?_));obtain ⟨c51, hc51⟩ := zY (a41 > 0);refine zV R3 (Val.gtr hc51 rfl rfl) (zN ?_);obtain ⟨rfl, hc51, h⟩ | ⟨rfl, hc51, h⟩ := zI hc51 h
          ·refine zC rfl (zT rfl (zM R4 (zM R4 (TO.build1 (en := encI) (a := x38) rfl rfl rfl ⟨rfl, rfl⟩ ⟨_, rfl, rfl⟩ (by decide) (by decide) rfl rfl (fun v54=>?_)))));obtain ⟨hk55, h⟩ := chk_some h;refine TO.eff rfl rfl rfl (Eff.append_own (b := 8) (en := encI) (l := may) (l2 := [x38]) (p := 2) (q := 0) ⟨rfl, rfl, rfl, ⟨_, rfl, rfl⟩, by decide, by decide⟩ rfl rfl rfl rfl rfl rfl (flat_ones _) (by decide) hk55) ?_;rintro v55 _ rfl;refine zG (_::_::_::_::_::_::_::_::_::_::_::_::_::C) rfl (zA R4 (zN ?_));cases h;exact ⟨rfl, (v20_2, v55), (sb (pk [1,1,1,1,1,1,1,1,1,1,1,1,98] rfl))⟩
          refine zD rfl (zK ?_);cases h;exact ⟨rfl, (v20_2, v19), (sb .refl)⟩
        ·rintro ⟨sure_2, may_2⟩ ⟨v20_2, v19_2⟩ h;dsimp only at h;refine zH ⟨[iddfr1], [(6, v20_2), (7, v19_2), (9, .ptr b9 0 1), (36, v16), (37, iv ((many.length : Int))), (38, iv (x38))], ownL true v20_2 encI sure_2 :: ownL true v19_2 encI may_2 :: .obj iddfr1 (.dfr true) :: .row b9 1 [iv (times)] :: ownL false v16 encI many :: .row id10 1 [.ptr w12 0 5] :: .row b7 1 [.ptr w12 0 5] :: .row w12 5 [iv (y12_2), v_c_Book_Gatherings, v_c_Items, y12_3.v, w12_2] :: ownL true w12_2 encI y12_4 :: .row b3 1 [.func 35 [] []] :: .row b2 3 [iv (c_Book_Signed), v_c_Book_Gatherings, v_c_Items] :: .row b1 3 [iv (c_Book_Signed), v_c_Book_Gatherings, v_c_Items] :: C⟩ rfl (zT rfl ?_);obtain ⟨hk56, h⟩ := chk_some h;refine zV R3 (Val.add rfl rfl hk56) (zM R4 (zN ?_));cases h;exact ⟨rfl, (v20_2, v19_2), (sb .refl)⟩
       refine zD rfl (zE ?_);cases h;exact ⟨ex_ne, ⟨rfl, (v20, v19), (sb .refl)⟩⟩
      ·rintro ⟨sure, may⟩ ⟨v20, v19⟩ h;dsimp only at h;refine zH ⟨[iddfr1], [(6, v20), (7, v19)], ownL true v20 encI sure :: ownL true v19 encI may :: .obj iddfr1 (.dfr true) :: .row b9 1 [iv (times)] :: ownL false v16 encI many :: .row id10 1 [.ptr w12 0 5] :: .row b7 1 [.ptr w12 0 5] :: .row w12 5 [iv (y12_2), v_c_Book_Gatherings, v_c_Items, y12_3.v, w12_2] :: ownL true w12_2 encI y12_4 :: .row b3 1 [.func 35 [] []] :: .row b2 3 [iv (c_Book_Signed), v_c_Book_Gatherings, v_c_Items] :: .row b1 3 [iv (c_Book_Signed), v_c_Book_Gatherings, v_c_Items] :: C⟩ rfl (zU rfl (zM R4 (zM R4 (zA R4 (zA R4 (zN (zR ?_)))))));cases h;exact ⟨rfl, _, ⟨2, rfl, rfl⟩, [_, _], ⟨rfl, ⟨rfl, trivial⟩⟩, ⟨(v20, v19), rfl, (pk [0,0,2,2,2,2,2,2,2,98,98] rfl)⟩⟩
    ·rintro ⟨sure, may⟩ ⟨v23, v24⟩ h;dsimp only at h;refine ⟨(all_cons (.inl (by kernel_rfl)) (all_cons (.inl (by kernel_rfl)) (all_cons (.inl (by kernel_rfl)) (all_cons (.inl (by kernel_rfl)) all_nil)))), all_nil, ?_⟩;refine yG (_::_::_::_::_::_::_::_::_::C) rfl (yM R4 (Val.move rfl) (yM R4 (Val.extract rfl rfl) (yM R4 (Val.extract rfl rfl) (yM R4 (Val.assign rfl) (yM R4 (Val.assign rfl) (TD2.nil (zU rfl (zM R4 (zM R4 (zA R4 (zA R4 (zA R4 (zN (zR ?_))))))))))))));cases h;exact ⟨rfl, _, rfl, ⟨(v24, v23), rfl, (pk [1,0,6,98,98,98,98,98,98] rfl)⟩⟩
 ·rintro ⟨y6, nl, nl_2⟩ ⟨v26, v25⟩ h;dsimp only at h;refine zG (_::_::_::C) rfl (zX R5 (zX R5 (zX R5 (zA R4 (zA R4 (zA R4 (zN (zR ?_))))))));cases h;exact ⟨rfl, _, rfl, ⟨(v25, v26), rfl, (pk [1,0,98] rfl)⟩⟩
theorem w_c_Lost (c_Book_Signed : Int) (c_Book_Gatherings : GS encG) (c_Items : GS encIt) (r : (List Int) × (List Int) × Int) (h : P_c_Lost c_Book_Signed c_Book_Gatherings.l c_Items.l = some r) : Comes (EL 5) 7 [.agg [iv (c_Book_Signed), c_Book_Gatherings.v, c_Items.v]] (.tuple [(GSo true encI r.1).v, (GSo true encI r.2.1).v, iv r.2.2]) :=
 TF.run (tf_c_Lost (Nat.le_refl _) (RdT.gs c_Book_Gatherings) (RdT.gs c_Items) h) fun w => (.tuple (.cons (.ownL (en := encI) (p := 0) rfl (.lits encI_lits)) (.cons (.ownL (en := encI) (p := 1) rfl (.lits encI_lits)) (.cons .lit .nil))))
set_option maxRecDepth 10000 in
theorem tf_c_Loose {k : Nat} (hk : 5 ≤ k) {C : List Thing} {c_Book_Signed : Int} {v_c_Book_Gatherings : AV} {c_Book_Gatherings : List Gat} {v_c_Items : AV} {c_Items : List Item} (ht_c_Book_Gatherings : RdT encG v_c_Book_Gatherings c_Book_Gatherings) (ht_c_Items : RdT encIt v_c_Items c_Items) {r : (List Int) × (List Int) × Int} (h : P_c_Loose c_Book_Signed c_Book_Gatherings c_Items = some r) :
  TF (EL k) 10 [.agg [iv (c_Book_Signed), v_c_Book_Gatherings, v_c_Items]] C (RepF (fun (w : AV × AV) => .tuple [w.1, w.2, iv r.2.2]) (fun (w : AV × AV) => ownL true w.1 encI r.1 :: ownL true w.2 encI r.2.1 :: C)) := by
 unfold P_c_Loose at h
 have h_c_Book_Gatherings : Rdl C encG v_c_Book_Gatherings c_Book_Gatherings := RdT.rdl ht_c_Book_Gatherings
 have h_c_Items : Rdl C encIt v_c_Items c_Items := RdT.rdl ht_c_Items;refine TF.enter (fn := Go.Proofs.Tryz.f10) rfl rfl rfl rfl rfl (zU rfl (zQ 3 [_,_,_] R7 (fun b1=>zA R4 (zA R4 (zA R4 (zN (zU rfl (zV R3 (vW 0 [_,_,_] R5 R4) ?_))))))));refine TO.callJ (W := AV × AV) (fun (j : Int × (List Int) × (List Int)) (w : AV × AV) => .tuple [w.2, w.1, iv (j.1)]) (fun (j : Int × (List Int) × (List Int)) (w : AV × AV) => ownL true w.1 encI j.2.1 :: ownL true w.2 encI j.2.2 :: .row b1 3 [iv (c_Book_Signed), v_c_Book_Gatherings, v_c_Items] :: C) h rfl rfl rfl rfl rfl rfl (orcN rfl) ?_ ?_
 ·intro j h;refine TF.enter (fn := Go.Proofs.Tryz.f34) rfl rfl rfl rfl rfl (zU rfl (zQ 3 [_,_,_] R7 (fun b2=>zQ 1 [_] R7 (fun b3=>zA R4 (zA R4 (zA R4 (zN (zU rfl (zV R3 (vW 1 [_,_,_] R5 R4) ?_)))))))));obtain ⟨y12, hr12, h⟩ := andx_some h;cases y12 with
  | inl y12 =>
   obtain ⟨y12_2, y12_3, y12_4⟩ := y12;dsimp only at h;obtain ⟨hkn12, h⟩ := chk_some h;refine TO.callT (first := []) (cap := []) (vs := [.agg [iv (c_Book_Signed), v_c_Book_Gatherings, v_c_Items]]) rfl rfl rfl rfl rfl rfl (orcN rfl) (tf_c_open (by first | decide | omega) (Rdl.mono h_c_Book_Gatherings M3) (Rdl.mono h_c_Items M3) hr12) ?_;rintro _;refine zG (_::_::_::C) rfl (zM R4 (zX R5 (zX R5 (zX R5 (zX R5 (zJ 1 [_] R7 (fun b7=>TO.eff0 rfl rfl (Eff.store_row (p := 0) (cv := [_]) (cells' := [_]) rfl rfl rfl rfl rfl rfl rfl rfl (by first | rfl | (simp [GS.one]; done)) (by decide) rfl) ?_)))))));rintro _ rfl;refine zG (_::_::_::_::C) rfl (zA R4 (zA R4 (zA R4 (zN (zS (zU rfl (zM R4 ?_)))))));obtain ⟨c18, hc18⟩ := zY (¬ y12_4 = 0);refine zV R3 (Val.neq hc18 rfl rfl) (zN ?_);obtain rfl : c18 = true := hc18.trans (decide_eq_true hkn12);refine zC rfl (zU rfl (zM R4 (zA R4 (zA R4 (zA R4 (zN (T.nilown (u := encI.u) (T.nilown (u := encI.u) (zR ?_)))))))));cases h;exact ⟨rfl, _, rfl, ⟨(nilS, nilS), rfl, (pk [0,0,3,98,98,98] rfl)⟩⟩
  | inr y12 =>
   obtain ⟨y12_2, y12_3, y12_4, y12_5, y12_6, y12_7⟩ := y12;dsimp only at h;obtain ⟨hkn12, h⟩ := chk_some h;refine TO.callT (first := []) (cap := []) (vs := [.agg [iv (c_Book_Signed), v_c_Book_Gatherings, v_c_Items]]) rfl rfl rfl rfl rfl rfl (orcN rfl) (tf_c_open (by first | decide | omega) (Rdl.mono h_c_Book_Gatherings M3) (Rdl.mono h_c_Items M3) hr12) ?_;rintro ⟨w12, w12_2⟩;refine zG (_::_::_::_::_::C) rfl (zM R4 (zX R5 (zX R5 (zX R5 (zX R5 (zJ 1 [_] R7 (fun b7=>TO.eff0 rfl rfl (Eff.store_row (p := 0) (cv := [_]) (cells' := [_]) rfl rfl rfl rfl rfl rfl rfl rfl (by first | rfl | (simp [GS.one]; done)) (by decide) rfl) ?_)))))));rintro _ rfl;refine zG (_::_::_::_::_::_::C) rfl (zA R4 (zA R4 (zA R4 (zN (zS (zU rfl (zM R4 ?_)))))));obtain ⟨c18, hc18⟩ := zY (¬ y12_7 = 0);refine zV R3 (Val.neq hc18 rfl rfl) (zN ?_);obtain rfl : c18 = false := hc18.trans (decide_eq_false (fun x => x hkn12));refine zD rfl (zK (zS (T.drawE (l1 := [0, 2, 3, 4, 5, 6, 7]) (l2 := [1, 8, 9, 10, 11, 12, 13]) (by kernel_rfl) (by kernel_rfl) (yR R4 (vR (p := 0) R6) (yL R4 (Val.makeFunc rfl rfl) (yR R4 (vR (p := 0) R6) (yL R4 (Val.nil_ptr rfl) (yL R4 (Val.faddr_ptr (fo := 3) rfl rfl rfl) (yR R4 (vR (p := 1) R6) (yR R4 (Val.len_gs rfl rfl) (TD1.over (fun v => sameC_refl v) (all_cons (⟨_, rfl, (Val.len_gs rfl rfl)⟩) (all_cons (⟨_, rfl, (vR (p := 1) R6)⟩) (all_cons (⟨_, rfl, (vR (p := 0) R6)⟩) (all_cons (⟨_, rfl, (vR (p := 0) R6)⟩) all_nil)))) ?_)))))))))));refine TD2.callJ (fun v => sameC_refl v) (W := Nat) (fun (j : Unit) (w : Nat) => .func 74 [] [.ptr w 0 1]) (fun (j : Unit) (w : Nat) => .row w 1 [.ptr w12 0 5] :: .row b7 1 [.ptr w12 0 5] :: .row w12 5 [iv (y12_2), v_c_Book_Gatherings, v_c_Items, y12_3.v, w12_2] :: ownL true w12_2 encI y12_4 :: .row b3 1 [.func 39 [] []] :: .row b2 3 [iv (c_Book_Signed), v_c_Book_Gatherings, v_c_Items] :: .row b1 3 [iv (c_Book_Signed), v_c_Book_Gatherings, v_c_Items] :: C) h rfl (by decide) rfl rfl rfl rfl rfl (orcN rfl) ?_ ?_
   ·intro j h;refine TF.enter (fn := Go.Proofs.Tryz.f54) rfl rfl rfl rfl rfl (zU rfl (zQ 1 [_] R7 (fun b1_2=>zA R4 (zN (zU rfl (zV R3 (Val.makeFunc rfl rfl) (zA R4 (zN (zR ?_)))))))));cases h;exact ⟨rfl, _, rfl, ⟨b1_2, rfl, .refl⟩⟩
   ·rintro _ id10 h;refine ⟨(all_cons (.inr ⟨_, rfl, (Val.len_gs rfl rfl)⟩) (all_cons (.inr ⟨_, rfl, (vR (p := 2) R6)⟩) (all_cons (.inr ⟨_, rfl, (vR (p := 1) R6)⟩) (all_cons (.inl (by kernel_rfl)) all_nil)))), all_nil, ?_⟩;refine yG (_::_::_::_::_::_::_::C) rfl ?_;refine TD2.callJ (fun v => sameC_refl v) (W := AV × AV) (fun (j : (List Int) × (List Int)) (w : AV × AV) => .tuple [w.1, w.2]) (fun (j : (List Int) × (List Int)) (w : AV × AV) => ownL true w.1 encI j.1 :: ownL true w.2 encI j.2 :: .row id10 1 [.ptr w12 0 5] :: .row b7 1 [.ptr w12 0 5] :: .row w12 5 [iv (y12_2), v_c_Book_Gatherings, v_c_Items, y12_3.v, w12_2] :: ownL true w12_2 encI y12_4 :: .row b3 1 [.func 39 [] []] :: .row b2 3 [iv (c_Book_Signed), v_c_Book_Gatherings, v_c_Items] :: .row b1 3 [iv (c_Book_Signed), v_c_Book_Gatherings, v_c_Items] :: C) h rfl (by decide) rfl rfl rfl rfl rfl (orcN rfl) ?_ ?_
    ·intro j h;refine TF.enterG (fn := Go.Proofs.Tryz.f62) rfl rfl rfl rfl rfl (zU rfl (zQ 1 [_] R7 (fun b4=>zA R4 (zA R4 (zN (zU rfl (zM R4 ?_)))))));obtain ⟨hk16, h⟩ := chk_some h;refine TO.makeE (en := encI) (0) (b := 8) rfl rfl rfl ⟨rfl, rfl⟩ rfl rfl rfl rfl rfl hk16 (by decide) (fun v16=>zJ 1 [_] R7 (fun b8=>zJ 1 [_] R7 (fun b9=>TO.fact (own_cellS (p := 2) rfl) (fun hot12=>TO.eff0 rfl rfl (Eff.store_row (p := 1) (cv := [_]) (cells' := [_]) rfl rfl rfl rfl rfl hot12.1 rfl rfl (by first | rfl | (simp [GS.one, hot12.2]; done)) (by decide) rfl) ?_))));rintro _ rfl;refine zG (_::_::_::_::_::_::_::_::_::_::_::C) rfl (TO.eff0 rfl rfl (Eff.store_row (p := 0) (cv := [_]) (cells' := [_]) rfl rfl rfl rfl rfl rfl rfl rfl (by first | rfl | (simp [GS.one]; done)) (by decide) rfl) ?_);rintro _ rfl;refine zG (_::_::_::_::_::_::_::_::_::_::_::C) rfl (zN ?_)
     show T _ _ _ _ _ _;apply T.joinA (r := j) (W := Nat) (fun (j : Int × (List Int)) (w : Nat) => ⟨[w], [(6, nilS), (7, nilS), (8, .ptr b8 0 1), (9, .ptr b9 0 1)], .obj w (.dfr true) :: .row b9 1 [iv (j.1)] :: .row b8 1 [v16] :: ownL false v16 encI j.2 :: .row b4 1 [.func 63 [] [.ptr b3 0 1, .ptr b7 0 1]] :: .row id10 1 [.ptr w12 0 5] :: .row b7 1 [.ptr w12 0 5] :: .row w12 5 [iv (y12_2), v_c_Book_Gatherings, v_c_Items, y12_3.v, w12_2] :: ownL true w12_2 encI y12_4 :: .row b3 1 [.func 39 [] []] :: .row b2 3 [iv (c_Book_Signed), v_c_Book_Gatherings, v_c_Items] :: .row b1 3 [iv (c_Book_Signed), v_c_Book_Gatherings, v_c_Items] :: C⟩) h
     ·intro j h;refine zU rfl (zM R4 (zN (zB ?_)));obtain ⟨hkR1, h⟩ := chk_some h
      show T _ _ _ _ _ _;apply T.rangeP (r := j) (W := Unit) (w0 := ()) ArgT (fun (j : Int × (List Int)) (w : Unit) => [.row b9 1 [iv (j.1)], .row b8 1 [v16], ownL false v16 encI j.2]) (.row b4 1 [.func 63 [] [.ptr b3 0 1, .ptr b7 0 1]] :: .row id10 1 [.ptr w12 0 5] :: .row b7 1 [.ptr w12 0 5] :: .row w12 5 [iv (y12_2), v_c_Book_Gatherings, v_c_Items, y12_3.v, w12_2] :: ownL true w12_2 encI y12_4 :: .row b3 1 [.func 39 [] []] :: .row b2 3 [iv (c_Book_Signed), v_c_Book_Gatherings, v_c_Items] :: .row b1 3 [iv (c_Book_Signed), v_c_Book_Gatherings, v_c_Items] :: C) h
      ·rfl
      ·rfl
      ·rfl
      ·exact .refl
      ·exact tr_yields (List.mem_of_getElem? (i := 1) rfl) (List.mem_of_getElem? (i := 3) rfl) (Rdl.mono h_c_Items M8) hkR1
      ·rintro l1 d ⟨times, many⟩ _ t vs G F1 ans hmem harg hD hG h;unfold P_c_Loose_L1 at h;dsimp only at h;obtain ⟨v_t, rfl, rfl⟩ := harg
       have h_t : Rdl F1 encI v_t t := .inr ⟨false, hG _ (by simp)⟩
       have hCF : ∀ x ∈ C, x ∈ F1 := fun x hx => hD x (memS M7 x hx)
       replace h_c_Book_Gatherings := Rdl.mono h_c_Book_Gatherings hCF;replace h_c_Items := Rdl.mono h_c_Items hCF
       have hu1_t8 : Rdl F1 encI w12_2 y12_4 := .inr ⟨true, (hD _ (List.mem_of_getElem? (i := 4) rfl))⟩
       have hu1_t7 : Thing.row w12 5 [iv (y12_2), v_c_Book_Gatherings, v_c_Items, y12_3.v, w12_2] ∈ F1 := (hD _ (List.mem_of_getElem? (i := 3) rfl))
       have hu1_t3 : Thing.row b3 1 [.func 39 [] []] ∈ F1 := (hD _ (List.mem_of_getElem? (i := 5) rfl))
       have hu1_t2 : Thing.row b2 3 [iv (c_Book_Signed), v_c_Book_Gatherings, v_c_Items] ∈ F1 := (hD _ (List.mem_of_getElem? (i := 6) rfl))
       have hu1_t1 : Thing.row b1 3 [iv (c_Book_Signed), v_c_Book_Gatherings, v_c_Items] ∈ F1 := (hD _ (List.mem_of_getElem? (i := 7) rfl))
       have hu1_t10 : Thing.row id10 1 [.ptr w12 0 5] ∈ F1 := (hD _ (List.mem_of_getElem? (i := 1) rfl))
       have hu1_t9 : Thing.row b7 1 [.ptr w12 0 5] ∈ F1 := (hD _ (List.mem_of_getElem? (i := 2) rfl))
       have hu1_t11 : Thing.row b4 1 [.func 63 [] [.ptr b3 0 1, .ptr b7 0 1]] ∈ F1 := (hD _ (List.mem_of_getElem? (i := 0) rfl));refine ⟨_, rfl, fun LR1 LB1 hLB1 => ?_⟩;refine T.things (hs' := LR1 :: .row b9 1 [iv (times)] :: .row b8 1 [v16] :: ownL false v16 encI many :: F1) rfl (zT rfl (zA R4 (zN ?_)));refine ⟨rfl, 0, rfl, ?_⟩;refine T.things (hs' := LB1 :: .row b9 1 [iv (times)] :: .row b8 1 [v16] :: ownL false v16 encI many :: F1) rfl (zB (zU rfl (zL 1 R3 R6 ?_)));obtain ⟨hk20, h⟩ := chk_some h;refine zV R3 (Val.add rfl rfl hk20) (TO.eff0 rfl rfl (Eff.store_row (p := 1) (cv := [_]) (cells' := [_]) rfl rfl rfl rfl rfl rfl rfl rfl (by first | rfl | (simp [GS.one]; done)) (by decide) rfl) ?_);rintro _ rfl;refine zG (_::_::_::_::F1) rfl (zN (zU rfl (zV R3 (Val.load_rowM hu1_t11 M4 ⟨_, rfl, rfl⟩ rfl rfl rfl) (zM R4 (TO.callIn rfl rfl rfl rfl rfl rfl (orcN rfl) (TF.enter (fn := Go.Proofs.Tryz.f63) rfl rfl rfl rfl rfl (zU rfl (zA R4 (zN (zU rfl (zV R3 (Val.load_rowM hu1_t3 M4 ⟨_, rfl, rfl⟩ rfl rfl rfl) (zV R3 (Val.load_rowM hu1_t9 M4 ⟨_, rfl, rfl⟩ rfl rfl rfl) (zM R4 ?_)))))))))))));refine TO.callJ (W := AV) (fun (j : (List Int)) (w : AV) => w) (fun (j : (List Int)) (w : AV) => ownL true w encI j :: LB1 :: .row b9 1 [iv ((times + 1))] :: .row b8 1 [v16] :: ownL false v16 encI many :: F1) h rfl rfl rfl rfl rfl rfl (orcN rfl) ?_ ?_
       ·intro j h;refine TF.enter (fn := Go.Proofs.Tryz.f39) rfl rfl rfl rfl rfl (zU rfl (zA R4 (zN (zU rfl (zM R4 (zM R4 ?_))))));obtain ⟨y10, hr10, h⟩ := andx_some h;refine TO.callT (first := []) (cap := []) (vs := [.ptr w12 0 5, v_t]) rfl rfl rfl rfl rfl rfl (orcN rfl) (tf_c_there (by first | decide | omega) (Rdl.mono h_c_Book_Gatherings M4) (Rdl.mono h_c_Items M4) (Rdl.mono (Rdl.gs (C := F1) y12_3) M4) (Rdl.mono hu1_t8 M4) (M4 _ hu1_t7) (Rdl.mono h_t M4) hr10) ?_;rintro w10;refine zG (_::_::_::_::_::F1) rfl (zA R4 (zN ?_))
        show T _ _ _ _ _ _;apply T.joinA (r := j) (W := AV) (fun (j : (List Int)) (w : AV) => ⟨[], [(4, w)], ownL true w encI j :: .cnt w10 KInt (cntI y10) [] :: LB1 :: .row b9 1 [iv ((times + 1))] :: .row b8 1 [v16] :: ownL false v16 encI many :: F1⟩) h
        ·intro j h;refine zU rfl (zM R4 (zV R3 (Val.nil_ptr rfl) (zF 4 R6 (zV R3 (Val.load_rowM hu1_t7 M5 ⟨_, rfl, rfl⟩ rfl rfl rfl) (zV R3 (Val.len_l hu1_t8 M5 rfl rfl) (zM R4 (zN (zB (T.nilown (u := encI.u) ?_)))))))))
         show T _ _ _ _ _ _;apply T.iter (r := j) (W := AV) (fun (j : Int × (List Int)) (w : AV) => ⟨[], [(4, w), (5, .map w10), (14, w12_2), (15, iv ((y12_4.length : Int))), (16, iv (j.1))], ownL true w encI j.2 :: .cnt w10 KInt (cntI y10) [] :: LB1 :: .row b9 1 [iv ((times + 1))] :: .row b8 1 [v16] :: ownL false v16 encI many :: F1⟩) (w0 := nilS) h
         ·exact (sb .refl)
         rintro ⟨x16, l⟩ v16_2 a h;unfold P_c_Loose_L2 at h;dsimp only at h;refine zH ⟨[], [(4, v16_2), (5, .map w10), (14, w12_2), (15, iv ((y12_4.length : Int))), (16, iv (x16))], ownL true v16_2 encI l :: .cnt w10 KInt (cntI y10) [] :: LB1 :: .row b9 1 [iv ((times + 1))] :: .row b8 1 [v16] :: ownL false v16 encI many :: F1⟩ rfl (zU rfl ?_);obtain ⟨c17, hc17⟩ := zY (x16 < (y12_4.length : Int));refine zV R3 (Val.lss hc17 rfl rfl) (zN (zS ?_));obtain ⟨rfl, hc17, h⟩ | ⟨rfl, hc17, h⟩ := zI hc17 h
         ·refine zC rfl (zK ?_)
          show T _ _ _ _ _ _;apply T.joinA (r := a) (W := AV) (fun (j : (List Int)) (w : AV) => ⟨[], [(4, w), (5, .map w10), (14, w12_2), (15, iv ((y12_4.length : Int))), (16, iv (x16))], ownL true w encI j :: .cnt w10 KInt (cntI y10) [] :: LB1 :: .row b9 1 [iv ((times + 1))] :: .row b8 1 [v16] :: ownL false v16 encI many :: F1⟩) h
          ·intro j h;refine zB (zU rfl (zM R4 ?_));obtain ⟨a19, hia19, ea19, h⟩ := el_some h;refine TO.fact (rdl_at hu1_t8 M6 hia19 ea19) (fun hp=>?_);obtain ⟨pa19, hpa19, hva19⟩ := hp;refine zV R3 (hva19 ⟨rfl, rfl⟩ rfl rfl) (zV R3 (Val.load_e hpa19 M6 ⟨_, rfl, rfl⟩ rfl rfl) (zA R4 (zA R4 (zN ?_))))
           show T _ _ _ _ _ _;apply T.joinA (r := j) (W := Unit) (fun (j : Bool) (w : Unit) => ⟨[], [(4, v16_2), (5, .map w10), (6, iv (x16)), (14, w12_2), (15, iv ((y12_4.length : Int))), (16, iv (x16)), (34, bv j)], ownL true v16_2 encI l :: .cnt w10 KInt (cntI y10) [] :: LB1 :: .row b9 1 [iv ((times + 1))] :: .row b8 1 [v16] :: ownL false v16 encI many :: F1⟩) h
           ·intro j h;refine zT rfl (zM R4 (zM R4 (zV R3 (Val.lookupI (p := 1) rfl rfl key_ty3 rfl rfl rfl) ?_)));obtain ⟨c24, hc24⟩ := zY ((y10 x16) > 0);refine zV R3 (Val.gtr hc24 rfl rfl) (zM R4 ?_);obtain ⟨rfl, hc24, h⟩ | ⟨rfl, hc24, h⟩ := zI hc24 h
            ·refine zM R4 ?_;obtain ⟨c27, hc27⟩ := zY (a19 ≥ 0);refine zV R3 (Val.geq hc27 rfl rfl) (zP R6 (zM R4 ?_));obtain ⟨rfl, hc27, h⟩ | ⟨rfl, hc27, h⟩ := zI hc27 h
             ·refine zM R4 (zM R4 (zV R3 (Val.lookupI (p := 1) rfl rfl key_ty3 rfl rfl rfl) ?_));obtain ⟨c33, hc33⟩ := zY ((y10 a19) = 0);refine zV R3 (Val.eql hc33 rfl rfl) (zP R6 (zN ?_));subst hc33;cases h;exact ⟨rfl, (), (sb .refl)⟩
             refine zO R3 (zO R3 (zO R3 (zO R3 (zP R6 (zN ?_)))));cases h;exact ⟨rfl, (), (sb .refl)⟩
            refine zO R3 (zO R3 (zP R6 (zM R4 (zO R3 (zO R3 (zO R3 (zO R3 (zP R6 (zN ?_)))))))));cases h;exact ⟨rfl, (), (sb .refl)⟩
           ·rintro x34 _ h;refine zH ⟨[], [(4, v16_2), (5, .map w10), (6, iv (x16)), (14, w12_2), (15, iv ((y12_4.length : Int))), (16, iv (x16)), (34, bv x34)], ownL true v16_2 encI l :: .cnt w10 KInt (cntI y10) [] :: LB1 :: .row b9 1 [iv ((times + 1))] :: .row b8 1 [v16] :: ownL false v16 encI many :: F1⟩ rfl ?_;obtain ⟨rfl, h⟩ | ⟨rfl, h⟩ := zZ h
            ·refine zC rfl (zT rfl (zM R4 (zM R4 (TO.build1 (en := encI) (a := x16) rfl rfl rfl ⟨rfl, rfl⟩ ⟨_, rfl, rfl⟩ (by decide) (by decide) rfl rfl (fun v37=>?_)))));obtain ⟨hk38, h⟩ := chk_some h;refine TO.eff rfl rfl rfl (Eff.append_own (b := 8) (en := encI) (l := l) (l2 := [x16]) (p := 1) (q := 0) ⟨rfl, rfl, rfl, ⟨_, rfl, rfl⟩, by decide, by decide⟩ rfl rfl rfl rfl rfl rfl (flat_ones _) (by decide) hk38) ?_;rintro v38 _ rfl;refine zG (_::_::_::_::_::_::_::F1) rfl (zA R4 (zN ?_));cases h;exact ⟨rfl, v38, (sb (pk [1,1,1,1,1,1,98] rfl))⟩
            refine zD rfl (zK ?_);cases h;exact ⟨rfl, v16_2, (sb .refl)⟩
          ·rintro l_2 v16_3 h;refine zH ⟨[], [(4, v16_3), (5, .map w10), (14, w12_2), (15, iv ((y12_4.length : Int))), (16, iv (x16))], ownL true v16_3 encI l_2 :: .cnt w10 KInt (cntI y10) [] :: LB1 :: .row b9 1 [iv ((times + 1))] :: .row b8 1 [v16] :: ownL false v16 encI many :: F1⟩ rfl (zT rfl ?_);obtain ⟨hk39, h⟩ := chk_some h;refine zV R3 (Val.add rfl rfl hk39) (zM R4 (zN ?_));cases h;exact ⟨rfl, v16_3, (sb .refl)⟩
         refine zD rfl (zE ?_);cases h;exact ⟨ex_ne, ⟨rfl, v16_2, (sb .refl)⟩⟩
        ·rintro l v16_2 h;refine zH ⟨[], [(4, v16_2)], ownL true v16_2 encI l :: .cnt w10 KInt (cntI y10) [] :: LB1 :: .row b9 1 [iv ((times + 1))] :: .row b8 1 [v16] :: ownL false v16 encI many :: F1⟩ rfl (zU rfl (zM R4 (zA R4 (zN (zR ?_)))));cases h;exact ⟨rfl, _, rfl, ⟨v16_2, rfl, (pk [0,1,1,1,1,98] rfl)⟩⟩
       ·rintro l v18 h;refine zG (_::_::_::_::_::F1) rfl (zA R4 (zN (zR ?_)));refine ⟨rfl, _, rfl, ?_⟩;refine zV R3 (Val.len_own (p := 0) rfl rfl rfl) (zM R4 (zN (zB ?_)))
        show T _ _ _ _ _ _;apply T.iter (r := ans) (W := Unit) (fun (j : Int × (List Int)) (w : Unit) => ⟨[], [(8, .ptr b8 0 1), (23, v18), (24, iv ((l.length : Int))), (25, iv (j.1))], ownL true v18 encI l :: LB1 :: .row b9 1 [iv ((times + 1))] :: .row b8 1 [v16] :: ownL false v16 encI j.2 :: F1⟩) (w0 := ()) h
        ·exact (sb .refl)
        rintro ⟨x25, many_2⟩ _ a h;unfold P_c_Loose_L3 at h;dsimp only at h;refine zH ⟨[], [(8, .ptr b8 0 1), (23, v18), (24, iv ((l.length : Int))), (25, iv (x25))], ownL true v18 encI l :: LB1 :: .row b9 1 [iv ((times + 1))] :: .row b8 1 [v16] :: ownL false v16 encI many_2 :: F1⟩ rfl (zU rfl ?_);obtain ⟨c26, hc26⟩ := zY (x25 < (l.length : Int));refine zV R3 (Val.lss hc26 rfl rfl) (zN (zS ?_));obtain ⟨rfl, hc26, h⟩ | ⟨rfl, hc26, h⟩ := zI hc26 h
        ·refine zC rfl (zK (zS (zB (zU rfl ?_))));obtain ⟨a27, hia27, ea27, h⟩ := el_some h;refine TO.fact (own_at (en := encI) (p := 0) rfl hia27) (fun hp=>?_);obtain ⟨ida27, ata27⟩ := hp;refine zV R3 (Val.iaddr_at (en := encI) ata27 ⟨rfl, rfl⟩ rfl rfl hia27) (zV R3 (Val.load_ownL (en := encI) (p := 0) (j := 0) rfl ata27 ⟨_, rfl, rfl⟩ rfl ea27 rfl) (zA R4 (zN (zT rfl (zL 3 R3 R6 (zM R4 ?_))))));obtain ⟨a31, hia31, ea31, h⟩ := el_some h;refine TO.fact (own_at (en := encI) (p := 4) rfl hia31) (fun hp=>?_);obtain ⟨ida31, ata31⟩ := hp;refine zV R3 (Val.iaddr_at (en := encI) ata31 ⟨rfl, rfl⟩ rfl rfl hia31) (zV R3 (Val.load_ownL (en := encI) (p := 4) (j := 0) rfl ata31 ⟨_, rfl, rfl⟩ rfl ea31 rfl) ?_);obtain ⟨hk33, h⟩ := chk_some h;refine zV R3 (Val.add rfl rfl hk33) ?_;obtain ⟨a34, hia34, ea34, h⟩ := el_some h;refine TO.fact (own_at (en := encI) (p := 4) rfl hia34) (fun hp=>?_);obtain ⟨ida34, ata34⟩ := hp;refine zV R3 (Val.iaddr_at (en := encI) ata34 ⟨rfl, rfl⟩ rfl rfl hia34) (TO.eff0 rfl rfl (Eff.store_ownE (en := encI) (p := 4) (a := a34) (a' := (a31 + 1)) (j := 0) (cv := [_]) rfl ata34 ea34 rfl rfl (by decide) rfl rfl rfl rfl (by first | rfl | (simp [GS.one]; done)) rfl) ?_);rintro _ rfl;refine zG (_::_::_::_::_::F1) rfl (zN (zT rfl ?_));obtain ⟨hk35, h⟩ := chk_some h;refine zV R3 (Val.add rfl rfl hk35) (zM R4 (zN ?_));cases h;exact ⟨rfl, (), (sb .refl)⟩
        refine zD rfl (zE ?_);cases h;exact ⟨ex_ne, ⟨rfl, (), (pk [1,1,1,1,98] rfl)⟩⟩
      ·rintro d ⟨times, many⟩ _ h;dsimp only at h;cases h;exact ⟨rfl, d, (sb .refl)⟩
     ·rintro ⟨times, many⟩ iddfr1 h;dsimp only at h;refine zH ⟨[iddfr1], [(6, nilS), (7, nilS), (8, .ptr b8 0 1), (9, .ptr b9 0 1)], .obj iddfr1 (.dfr true) :: .row b9 1 [iv (times)] :: .row b8 1 [v16] :: ownL false v16 encI many :: .row b4 1 [.func 63 [] [.ptr b3 0 1, .ptr b7 0 1]] :: .row id10 1 [.ptr w12 0 5] :: .row b7 1 [.ptr w12 0 5] :: .row w12 5 [iv (y12_2), v_c_Book_Gatherings, v_c_Items, y12_3.v, w12_2] :: ownL true w12_2 encI y12_4 :: .row b3 1 [.func 39 [] []] :: .row b2 3 [iv (c_Book_Signed), v_c_Book_Gatherings, v_c_Items] :: .row b1 3 [iv (c_Book_Signed), v_c_Book_Gatherings, v_c_Items] :: C⟩ rfl ?_
      show T _ _ _ _ _ _;apply T.joinA (r := j) (W := AV × AV) (fun (j : (List Int) × (List Int)) (w : AV × AV) => ⟨[iddfr1], [(6, w.1), (7, w.2)], ownL true w.1 encI j.1 :: ownL true w.2 encI j.2 :: .obj iddfr1 (.dfr true) :: .row b9 1 [iv (times)] :: ownL false v16 encI many :: .row id10 1 [.ptr w12 0 5] :: .row b7 1 [.ptr w12 0 5] :: .row w12 5 [iv (y12_2), v_c_Book_Gatherings, v_c_Items, y12_3.v, w12_2] :: ownL true w12_2 encI y12_4 :: .row b3 1 [.func 39 [] []] :: .row b2 3 [iv (c_Book_Signed), v_c_Book_Gatherings, v_c_Items] :: .row b1 3 [iv (c_Book_Signed), v_c_Book_Gatherings, v_c_Items] :: C⟩) h
      ·intro j h;refine zU rfl (zL 2 R3 R6 (zV R3 (Val.len_own (p := 3) rfl rfl rfl) (zM R4 (zN (zB (T.nilown (u := encI.u) (T.nilown (u := encI.u) ?_)))))))
       show T _ _ _ _ _ _;apply T.iter (r := j) (W := AV × AV) (fun (j : Int × (List Int) × (List Int)) (w : AV × AV) => ⟨[iddfr1], [(6, w.1), (7, w.2), (9, .ptr b9 0 1), (36, v16), (37, iv ((many.length : Int))), (38, iv (j.1))], ownL true w.1 encI j.2.1 :: ownL true w.2 encI j.2.2 :: .obj iddfr1 (.dfr true) :: .row b9 1 [iv (times)] :: ownL false v16 encI many :: .row id10 1 [.ptr w12 0 5] :: .row b7 1 [.ptr w12 0 5] :: .row w12 5 [iv (y12_2), v_c_Book_Gatherings, v_c_Items, y12_3.v, w12_2] :: ownL true w12_2 encI y12_4 :: .row b3 1 [.func 39 [] []] :: .row b2 3 [iv (c_Book_Signed), v_c_Book_Gatherings, v_c_Items] :: .row b1 3 [iv (c_Book_Signed), v_c_Book_Gatherings, v_c_Items] :: C⟩) (w0 := (nilS, nilS)) h
       ·exact (sb (pk [0,0,0,0,1,2,2,2,2,2,2,2,98,98] rfl))
       rintro ⟨x38, sure, may⟩ ⟨v20, v19⟩ a h;unfold P_c_Loose_L4 at h;dsimp only at h;refine zH ⟨[iddfr1], [(6, v20), (7, v19), (9, .ptr b9 0 1), (36, v16), (37, iv ((many.length : Int))), (38, iv (x38))], ownL true v20 encI sure :: ownL true v19 encI may :: .obj iddfr1 (.dfr true) :: .row b9 1 [iv (times)] :: ownL false v16 encI many :: .row id10 1 [.ptr w12 0 5] :: .row b7 1 [.ptr w12 0 5] :: .row w12 5 [iv (y12_2), v_c_Book_Gatherings, v_c_Items, y12_3.v, w12_2] :: ownL true w12_2 encI y12_4 :: .row b3 1 [.func 39 [] []] :: .row b2 3 [iv (c_Book_Signed), v_c_Book_Gatherings, v_c_Items] :: .row b1 3 [iv (c_Book_Signed), v_c_Book_Gatherings, v_c_Items] :: C⟩ rfl (zU rfl ?_);obtain ⟨c39, hc39⟩ := zY (x38 < (many.length : Int));refine zV R3 (Val.lss hc39 rfl rfl) (zN (zS ?_));obtain ⟨rfl, hc39, h⟩ | ⟨rfl, hc39, h⟩ := zI hc39 h
       ·refine zC rfl (zK ?_)
        show T _ _ _ _ _ _;apply T.joinA (r := a) (W := AV × AV) (fun (j : (List Int) × (List Int)) (w : AV × AV) => ⟨[iddfr1], [(6, w.1), (7, w.2), (9, .ptr b9 0 1), (36, v16), (37, iv ((many.length : Int))), (38, iv (x38))], ownL true w.1 encI j.1 :: ownL true w.2 encI j.2 :: .obj iddfr1 (.dfr true) :: .row b9 1 [iv (times)] :: ownL false v16 encI many :: .row id10 1 [.ptr w12 0 5] :: .row b7 1 [.ptr w12 0 5] :: .row w12 5 [iv (y12_2), v_c_Book_Gatherings, v_c_Items, y12_3.v, w12_2] :: ownL true w12_2 encI y12_4 :: .row b3 1 [.func 39 [] []] :: .row b2 3 [iv (c_Book_Signed), v_c_Book_Gatherings, v_c_Items] :: .row b1 3 [iv (c_Book_Signed), v_c_Book_Gatherings, v_c_Items] :: C⟩) h
        ·intro j h;refine zB (zU rfl (zM R4 ?_));obtain ⟨a41, hia41, ea41, h⟩ := el_some h;refine TO.fact (own_at (en := encI) (p := 4) rfl hia41) (fun hp=>?_);obtain ⟨ida41, ata41⟩ := hp;refine zV R3 (Val.iaddr_at (en := encI) ata41 ⟨rfl, rfl⟩ rfl rfl hia41) (zV R3 (Val.load_ownL (en := encI) (p := 4) (j := 0) rfl ata41 ⟨_, rfl, rfl⟩ rfl ea41 rfl) (zA R4 (zA R4 (zN ?_))))
         show T _ _ _ _ _ _;apply T.joinA (r := j) (W := AV) (fun (j : (List Int)) (w : AV) => ⟨[iddfr1], [(6, w), (7, v19), (9, .ptr b9 0 1), (13, iv (x38)), (14, iv (a41)), (36, v16), (37, iv ((many.length : Int))), (38, iv (x38))], ownL true w encI j :: ownL true v19 encI may :: .obj iddfr1 (.dfr true) :: .row b9 1 [iv (times)] :: ownL false v16 encI many :: .row id10 1 [.ptr w12 0 5] :: .row b7 1 [.ptr w12 0 5] :: .row w12 5 [iv (y12_2), v_c_Book_Gatherings, v_c_Items, y12_3.v, w12_2] :: ownL true w12_2 encI y12_4 :: .row b3 1 [.func 39 [] []] :: .row b2 3 [iv (c_Book_Signed), v_c_Book_Gatherings, v_c_Items] :: .row b1 3 [iv (c_Book_Signed), v_c_Book_Gatherings, v_c_Items] :: C⟩) h
         ·intro j h;refine zU rfl (zM R4 (zL 3 R3 R6 ?_));obtain ⟨c45, hc45⟩ := zY (a41 = times);refine zV R3 (Val.eql hc45 rfl rfl) (zN ?_);obtain ⟨rfl, hc45, h⟩ | ⟨rfl, hc45, h⟩ := zI hc45 h
          ·refine zC rfl (zT rfl (zM R4 (zM R4 (TO.build1 (en := encI) (a := x38) rfl rfl rfl ⟨rfl, rfl⟩ ⟨_, rfl, rfl⟩ (by decide) (by decide) rfl rfl (fun v48=>?_)))));obtain ⟨hk49, h⟩ := chk_some h;refine TO.eff rfl rfl rfl (Eff.append_own (b := 8) (en := encI) (l := sure) (l2 := [x38]) (p := 1) (q := 0) ⟨rfl, rfl, rfl, ⟨_, rfl, rfl⟩, by decide, by decide⟩ rfl rfl rfl rfl rfl rfl (flat_ones _) (by decide) hk49) ?_;rintro v49 _ rfl;refine zG (_::_::_::_::_::_::_::_::_::_::_::_::_::C) rfl (zA R4 (zN ?_));cases h;exact ⟨rfl, v49, (sb (pk [1,1,1,1,1,1,1,1,1,1,1,1,98] rfl))⟩
          refine zD rfl (zK ?_);cases h;exact ⟨rfl, v20, (sb .refl)⟩
         ·rintro sure_2 v20_2 h;refine zH ⟨[iddfr1], [(6, v20_2), (7, v19), (9, .ptr b9 0 1), (13, iv (x38)), (14, iv (a41)), (36, v16), (37, iv ((many.length : Int))), (38, iv (x38))], ownL true v20_2 encI sure_2 :: ownL true v19 encI may :: .obj iddfr1 (.dfr true) :: .row b9 1 [iv (times)] :: ownL false v16 encI many :: .row id10 1 [.ptr w12 0 5] :: .row b7 1 [.ptr w12 0 5] :: .row w12 5 [iv (y12_2), v_c_Book_Gatherings, v_c_Items, y12_3.v, w12_2] :: ownL true w12_2 encI y12_4 :: .row b3 1 [.func 39 [] []] :: .row b2 3 [iv (c_Book_Signed), v_c_Book_Gatherings, v_c_Items] :: .row b1 3 [iv (c_Book_Signed), v_c_Book_Gatherings, v_c_Items] :: C⟩ rfl (zU rfl (zM R4 ?_));obtain ⟨c51, hc51⟩ := zY (a41 > 0);refine zV R3 (Val.gtr hc51 rfl rfl) (zN ?_);obtain ⟨rfl, hc51, h⟩ | ⟨rfl, hc51, h⟩ := zI hc51 h
          ·refine zC rfl (zT rfl (zM R4 (zM R4 (TO.build1 (en := encI) (a := x38) rfl rfl rfl ⟨rfl, rfl⟩ ⟨_, rfl, rfl⟩ (by decide) (by decide) rfl rfl (fun v54=>?_)))));obtain ⟨hk55, h⟩ := chk_some h;refine TO.eff rfl rfl rfl (Eff.append_own (b := 8) (en := encI) (l := may) (l2 := [x38]) (p := 2) (q := 0) ⟨rfl, rfl, rfl, ⟨_, rfl, rfl⟩, by decide, by decide⟩ rfl rfl rfl rfl rfl rfl (flat_ones _) (by decide) hk55) ?_;rintro v55 _ rfl;refine zG (_::_::_::_::_::_::_::_::_::_::_::_::_::C) rfl (zA R4 (zN ?_));cases h;exact ⟨rfl, (v20_2, v55), (sb (pk [1,1,1,1,1,1,1,1,1,1,1,1,98] rfl))⟩
          refine zD rfl (zK ?_);cases h;exact ⟨rfl, (v20_2, v19), (sb .refl)⟩
        ·rintro ⟨sure_2, may_2⟩ ⟨v20_2, v19_2⟩ h;dsimp only at h;refine zH ⟨[iddfr1], [(6, v20_2), (7, v19_2), (9, .ptr b9 0 1), (36, v16), (37, iv ((many.length : Int))), (38, iv (x38))], ownL true v20_2 encI sure_2 :: ownL true v19_2 encI may_2 :: .obj iddfr1 (.dfr true) :: .row b9 1 [iv (times)] :: ownL false v16 encI many :: .row id10 1 [.ptr w12 0 5] :: .row b7 1 [.ptr w12 0 5] :: .row w12 5 [iv (y12_2), v_c_Book_Gatherings, v_c_Items, y12_3.v, w12_2] :: ownL true w12_2 encI y12_4 :: .row b3 1 [.func 39 [] []] :: .row b2 3 [iv (c_Book_Signed), v_c_Book_Gatherings, v_c_Items] :: .row b1 3 [iv (c_Book_Signed), v_c_Book_Gatherings, v_c_Items] :: C⟩ rfl (zT rfl ?_);obtain ⟨hk56, h⟩ := chk_some h;refine zV R3 (Val.add rfl rfl hk56) (zM R4 (zN ?_));cases h;exact ⟨rfl, (v20_2, v19_2), (sb .refl)⟩
       refine zD rfl (zE ?_);cases h;exact ⟨ex_ne, ⟨rfl, (v20, v19), (sb .refl)⟩⟩
      ·rintro ⟨sure, may⟩ ⟨v20, v19⟩ h;dsimp only at h;refine zH ⟨[iddfr1], [(6, v20), (7, v19)], ownL true v20 encI sure :: ownL true v19 encI may :: .obj iddfr1 (.dfr true) :: .row b9 1 [iv (times)] :: ownL false v16 encI many :: .row id10 1 [.ptr w12 0 5] :: .row b7 1 [.ptr w12 0 5] :: .row w12 5 [iv (y12_2), v_c_Book_Gatherings, v_c_Items, y12_3.v, w12_2] :: ownL true w12_2 encI y12_4 :: .row b3 1 [.func 39 [] []] :: .row b2 3 [iv (c_Book_Signed), v_c_Book_Gatherings, v_c_Items] :: .row b1 3 [iv (c_Book_Signed), v_c_Book_Gatherings, v_c_Items] :: C⟩ rfl (zU rfl (zM R4 (zM R4 (zA R4 (zA R4 (zN (zR ?_)))))));cases h;exact ⟨rfl, _, ⟨2, rfl, rfl⟩, [_, _], ⟨rfl, ⟨rfl, trivial⟩⟩, ⟨(v20, v19), rfl, (pk [0,0,2,2,2,2,2,2,2,98,98] rfl)⟩⟩
    ·rintro ⟨sure, may⟩ ⟨v23, v24⟩ h;dsimp only at h;refine ⟨(all_cons (.inl (by kernel_rfl)) (all_cons (.inl (by kernel_rfl)) (all_cons (.inl (by kernel_rfl)) (all_cons (.inl (by kernel_rfl)) all_nil)))), all_nil, ?_⟩;refine yG (_::_::_::_::_::_::_::_::_::C) rfl (yM R4 (Val.move rfl) (yM R4 (Val.extract rfl rfl) (yM R4 (Val.extract rfl rfl) (yM R4 (Val.assign rfl) (yM R4 (Val.assign rfl) (TD2.nil (zU rfl (zM R4 (zM R4 (zA R4 (zA R4 (zA R4 (zN (zR ?_))))))))))))));cases h;exact ⟨rfl, _, rfl, ⟨(v24, v23), rfl, (pk [1,0,6,98,98,98,98,98,98] rfl)⟩⟩
 ·rintro ⟨y6, nl, nl_2⟩ ⟨v26, v25⟩ h;dsimp only at h;refine zG (_::_::_::C) rfl (zX R5 (zX R5 (zX R5 (zA R4 (zA R4 (zA R4 (zN (zR ?_))))))));cases h;exact ⟨rfl, _, rfl, ⟨(v25, v26), rfl, (pk [1,0,98] rfl)⟩⟩
theorem w_c_Loose (c_Book_Signed : Int) (c_Book_Gatherings : GS encG) (c_Items : GS encIt) (r : (List Int) × (List Int) × Int) (h : P_c_Loose c_Book_Signed c_Book_Gatherings.l c_Items.l = some r) : Comes (EL 5) 10 [.agg [iv (c_Book_Signed), c_Book_Gatherings.v, c_Items.v]] (.tuple [(GSo true encI r.1).v, (GSo true encI r.2.1).v, iv r.2.2]) :=
 TF.run (tf_c_Loose (Nat.le_refl _) (RdT.gs c_Book_Gatherings) (RdT.gs c_Items) h) fun w => (.tuple (.cons (.ownL (en := encI) (p := 0) rfl (.lits encI_lits)) (.cons (.ownL (en := encI) (p := 1) rfl (.lits encI_lits)) (.cons .lit .nil))))
end Go.Am.YthckcbfijdambaaGreat
end
section
namespace Go.Am
set_option linter.unusedVariables false
noncomputable def P_r4_Check_L1 (c_Items : List Item) (all33 : List Leaf) : Int → Option (Stp Int (Ex Unit (Int × Int × Int))) := fun i =>
  if i < (c_Items.length : Int) then
    el c_Items i fun a49 =>
    andx (P_r4_item a49.could.l (all33.length : Int)) fun y52 =>
      if ¬ y52 = 0 then
        some (Stp.dn (Ex.rt (2, i, y52)))
      else
        chk (I64 (i + 1)) (
          some (Stp.ag (i + 1)))
  else
    some (Stp.dn (Ex.nx ()))
noncomputable def P_r4_Check_L2 (c_Items : List Item) : (Int × Int) → Option (Stp (Int × Int) (Ex Unit (Int × Int × Int))) := fun (doubts, i) =>
  if i < (c_Items.length : Int) then
    seqx (
      andx (
        el c_Items i fun a67 =>
        if (a67.could.l.length : Int) > 1 then
          chk (I64 (doubts + 1)) (
            some (doubts + 1))
        else
          some doubts) fun doubts_2 =>
        if doubts_2 > 3 then
          some (Ex.rt (Stp.dn (Ex.rt (3, i, 3))))
        else
          some (Ex.nx doubts_2)) fun doubts_2 =>
      chk (I64 (i + 1)) (
        some (Stp.ag (doubts_2, (i + 1))))
  else
    some (Stp.dn (Ex.nx ()))
noncomputable def P_r4_Check (c_Book_Signed : Int) (c_Book_Gatherings : List Gat) (c_Items : List Item) : Option (Int × Int × Int) :=
  andx (P_r1_Check c_Book_Signed c_Book_Gatherings) fun (part15, at_15, e15) =>
    andx (
      andx (
        if e15 = 0 then
          andx (P_r1_All c_Book_Signed c_Book_Gatherings) fun all24 =>
            some (decide ((all24.length : Int) > 120))
        else
          some false) fun x27 =>
        if x27 = true then
          some 3
        else
          some e15) fun e =>
      if ¬ e = 0 then
        some (1, 0, e)
      else
        andx (P_r1_All c_Book_Signed c_Book_Gatherings) fun all33 =>
          if (c_Items.length : Int) > 120 then
            some (2, 0, 3)
          else
            seqx (
              iter (P_r4_Check_L1 c_Items all33) 0) fun _ =>
              seqx (
                iter (P_r4_Check_L2 c_Items) (0, 0)) fun _ =>
                some (0, 0, 0)
noncomputable def P_r4_All_L3 (l9 : List (List Int)) (k_ : Int) : (Int × (List (List Int))) → Option (Stp (Int × (List (List Int))) (List (List Int))) := fun (n, next_2) =>
  if n < ([(-1)].length : Int) then
    el l9 k_ fun a43 =>
    el [(-1)] n fun a48 =>
    chk (([] : List Int).length + a43.length < 1000000000) (
      chk ((([] : List Int) ++ a43).length + [a48].length < 1000000000) (
        chk (next_2.length + [(([] : List Int) ++ a43) ++ [a48]].length < 1000000000) (
          chk (I64 (n + 1)) (
            some (Stp.ag ((n + 1), next_2 ++ [(([] : List Int) ++ a43) ++ [a48]]))))))
  else
    some (Stp.dn next_2)
noncomputable def P_r4_All_L2 (l9 : List (List Int)) : (Int × (List (List Int))) → Option (Stp (Int × (List (List Int))) (List (List Int))) := fun (k_, next) =>
  if k_ < (l9.length : Int) then
    andx (
      iter (P_r4_All_L3 l9 k_) (0, next)) fun next_2 =>
      chk (I64 (k_ + 1)) (
        some (Stp.ag ((k_ + 1), next_2)))
  else
    some (Stp.dn next)
noncomputable def P_r4_All_L5 (l9 : List (List Int)) (a20 : Item) (k_ : Int) : (Int × (List (List Int))) → Option (Stp (Int × (List (List Int))) (List (List Int))) := fun (n, next_2) =>
  if n < (a20.could.l.length : Int) then
    el l9 k_ fun a43 =>
    el a20.could.l n fun a48 =>
    chk (([] : List Int).length + a43.length < 1000000000) (
      chk ((([] : List Int) ++ a43).length + [a48].length < 1000000000) (
        chk (next_2.length + [(([] : List Int) ++ a43) ++ [a48]].length < 1000000000) (
          chk (I64 (n + 1)) (
            some (Stp.ag ((n + 1), next_2 ++ [(([] : List Int) ++ a43) ++ [a48]]))))))
  else
    some (Stp.dn next_2)
noncomputable def P_r4_All_L4 (l9 : List (List Int)) (a20 : Item) : (Int × (List (List Int))) → Option (Stp (Int × (List (List Int))) (List (List Int))) := fun (k_, next) =>
  if k_ < (l9.length : Int) then
    andx (
      iter (P_r4_All_L5 l9 a20 k_) (0, next)) fun next_2 =>
      chk (I64 (k_ + 1)) (
        some (Stp.ag ((k_ + 1), next_2)))
  else
    some (Stp.dn next)
noncomputable def P_r4_All_L1 (c_Items : List Item) : (Int × (List (List Int)) × Bool) → Option (Stp (Int × (List (List Int)) × Bool) ((List (List Int)) × Bool)) := fun (i, l9, z) =>
  if i < (c_Items.length : Int) then
    andx (
      el c_Items i fun a20 =>
      if (a20.could.l.length : Int) = 0 then
        andx (
          iter (P_r4_All_L2 l9) (0, ([] : List (List Int)))) fun next =>
          some next
      else
        andx (
          iter (P_r4_All_L4 l9 a20) (0, ([] : List (List Int)))) fun next =>
          some next) fun next =>
      chk (I64 (i + 1)) (
        some (Stp.ag ((i + 1), next, true)))
  else
    some (Stp.dn (l9, z))
noncomputable def P_r4_All (c_Book_Signed : Int) (c_Book_Gatherings : List Gat) (c_Items : List Item) : Option ((List (List Int)) × Bool) :=
  andx (
    iter (P_r4_All_L1 c_Items) (0, [([] : List Int)], false)) fun (l9, z) =>
    some (l9, z)
end Go.Am
end
section
namespace Go.Am.YthckcbfijdambaaGreat
open Go.Am Go.RowKit
set_option linter.unusedVariables false
set_option linter.unusedSimpArgs false
set_option maxRecDepth 10000 in
theorem tf_r4_Check {k : Nat} (hk : 4 ≤ k) {C : List Thing} {c_Book_Signed : Int} {v_c_Book_Gatherings : AV} {c_Book_Gatherings : List Gat} {v_c_Items : AV} {c_Items : List Item} (ht_c_Book_Gatherings : RdT encG v_c_Book_Gatherings c_Book_Gatherings) (ht_c_Items : RdT encIt v_c_Items c_Items) {r : Int × Int × Int} (h : P_r4_Check c_Book_Signed c_Book_Gatherings c_Items = some r) :
  TF (EL k) 29 [.agg [iv (c_Book_Signed), v_c_Book_Gatherings, v_c_Items]] C (RepF (fun (w : Unit) => .tuple [iv r.1, iv r.2.1, iv r.2.2]) (fun (w : Unit) => C)) := by
 unfold P_r4_Check at h
 have h_c_Book_Gatherings : Rdl C encG v_c_Book_Gatherings c_Book_Gatherings := RdT.rdl ht_c_Book_Gatherings
 have h_c_Items : Rdl C encIt v_c_Items c_Items := RdT.rdl ht_c_Items;refine TF.enter (fn := Go.Proofs.Tryz.f29) rfl rfl rfl rfl rfl (zU rfl (zQ 3 [_,_,_] R7 (fun b1=>zA R4 (zA R4 (zA R4 (zN (zU rfl (zF 0 R6 (zV R3 (vW 0 [_,_] R5 R4) ?_)))))))));obtain ⟨⟨part15, at_15, e15⟩, hr15, h⟩ := andx_some h;dsimp only at h;obtain ⟨g, hgg, hrg⟩ := Rdl.reif (hs := .row b1 3 [iv (c_Book_Signed), v_c_Book_Gatherings, v_c_Items] :: C) h_c_Book_Gatherings M1 (ReifL.flat encG_tr);refine TO.call rfl rfl rfl rfl rfl (orcL rfl (by first | decide | omega)) (.cons (.agg (.cons .lit (.cons (hrg _) .nil))) .nil) (sem_of (w_r1_Check c_Book_Signed g _ (by try rw [hgg]; exact hr15))) (zM R4 (zX R5 (zX R5 (zX R5 (zA R4 (zA R4 (zA R4 (zN ?_))))))))
 show T _ _ _ _ _ _;apply T.joinA (r := r) (W := Unit) (fun (j : Int) (w : Unit) => ⟨[], [(1, .ptr b1 0 3), (7, iv (j))], .row b1 3 [iv (c_Book_Signed), v_c_Book_Gatherings, v_c_Items] :: C⟩) h
 ·intro j h
  show T _ _ _ _ _ _;apply T.joinA (r := j) (W := Unit) (fun (j : Bool) (w : Unit) => ⟨[], [(1, .ptr b1 0 3), (7, iv (e15)), (27, bv j)], .row b1 3 [iv (c_Book_Signed), v_c_Book_Gatherings, v_c_Items] :: C⟩) h
  ·intro j h;refine zT rfl (zM R4 ?_);obtain ⟨c20, hc20⟩ := zY (e15 = 0);refine zV R3 (Val.eql hc20 rfl rfl) (zM R4 ?_);obtain ⟨rfl, hc20, h⟩ | ⟨rfl, hc20, h⟩ := zI hc20 h
   ·refine zF 0 R6 (zV R3 (vW 0 [_,_] R5 R4) ?_);obtain ⟨all24, hr24, h⟩ := andx_some h;obtain ⟨g_2, hgg_2, hrg_2⟩ := Rdl.reif (hs := .row b1 3 [iv (c_Book_Signed), v_c_Book_Gatherings, v_c_Items] :: C) h_c_Book_Gatherings M1 (ReifL.flat encG_tr);refine TO.call rfl rfl rfl rfl rfl (orcL rfl (by first | decide | omega)) (.cons (.agg (.cons .lit (.cons (hrg_2 _) .nil))) .nil) (sem_of (w_r1_All c_Book_Signed g_2 _ (by try rw [hgg_2]; exact hr24))) (zV R3 (Val.len_gs rfl rfl) ?_);obtain ⟨c26, hc26⟩ := zY ((all24.length : Int) > 120);refine zV R3 (Val.gtr hc26 rfl rfl) (zP R6 (zN ?_));subst hc26;cases h;exact ⟨rfl, (), (sb .refl)⟩
   refine zO R3 (zO R3 (zO R3 (zO R3 (zO R3 (zP R6 (zN ?_))))));cases h;exact ⟨rfl, (), (sb .refl)⟩
  ·rintro x27 _ h;refine zH ⟨[], [(1, .ptr b1 0 3), (7, iv (e15)), (27, bv x27)], .row b1 3 [iv (c_Book_Signed), v_c_Book_Gatherings, v_c_Items] :: C⟩ rfl ?_;obtain ⟨rfl, h⟩ | ⟨rfl, h⟩ := zZ h
   ·refine zC rfl (zT rfl (zA R4 (zN ?_)));cases h;exact ⟨rfl, (), (sb .refl)⟩
   refine zD rfl (zK ?_);cases h;exact ⟨rfl, (), (sb .refl)⟩
 ·rintro e _ h;refine zH ⟨[], [(1, .ptr b1 0 3), (7, iv (e))], .row b1 3 [iv (c_Book_Signed), v_c_Book_Gatherings, v_c_Items] :: C⟩ rfl (zS (zU rfl (zM R4 ?_)));obtain ⟨c29, hc29⟩ := zY (¬ e = 0);refine zV R3 (Val.neq hc29 rfl rfl) (zN ?_);obtain ⟨rfl, hc29, h⟩ | ⟨rfl, hc29, h⟩ := zI hc29 h
  ·refine zC rfl (zU rfl (zM R4 (zA R4 (zA R4 (zA R4 (zN (zR ?_)))))));cases h;exact ⟨rfl, _, rfl, ⟨(), rfl, (pk [98] rfl)⟩⟩
  refine zD rfl (zK (zU rfl (zF 0 R6 (zV R3 (vW 0 [_,_] R5 R4) ?_))));obtain ⟨all33, hr33, h⟩ := andx_some h;obtain ⟨g_2, hgg_2, hrg_2⟩ := Rdl.reif (hs := .row b1 3 [iv (c_Book_Signed), v_c_Book_Gatherings, v_c_Items] :: C) h_c_Book_Gatherings M1 (ReifL.flat encG_tr);refine TO.call rfl rfl rfl rfl rfl (orcL rfl (by first | decide | omega)) (.cons (.agg (.cons .lit (.cons (hrg_2 _) .nil))) .nil) (sem_of (w_r1_All c_Book_Signed g_2 _ (by try rw [hgg_2]; exact hr33))) (zV R3 (Val.len_gs rfl rfl) (zA R4 (zN (zS (zU rfl (zF 2 R6 (zL 0 R3 R6 (zV R3 (Val.len_l h_c_Items M1 rfl rfl) ?_))))))));obtain ⟨c38, hc38⟩ := zY ((c_Items.length : Int) > 120);refine zV R3 (Val.gtr hc38 rfl rfl) (zN ?_);obtain ⟨rfl, hc38, h⟩ | ⟨rfl, hc38, h⟩ := zI hc38 h
  ·refine zC rfl (zU rfl (zA R4 (zA R4 (zA R4 (zN (zR ?_))))));cases h;exact ⟨rfl, _, rfl, ⟨(), rfl, (pk [98] rfl)⟩⟩
  refine zD rfl (zK ?_)
  show T _ _ _ _ _ _;apply T.join (r := r) (W := Unit) (fun (j : Unit) (w : Unit) => ⟨[], [(1, .ptr b1 0 3)], .row b1 3 [iv (c_Book_Signed), v_c_Book_Gatherings, v_c_Items] :: C⟩) h
  ·intro j h;refine zU rfl (zA R4 (zN (zB ?_)))
   show T _ _ _ _ _ _;apply T.iter (r := j) (W := Unit) (fun (j : Int) (w : Unit) => ⟨[], [(1, .ptr b1 0 3), (8, iv ((all33.length : Int))), (9, iv (j))], .row b1 3 [iv (c_Book_Signed), v_c_Book_Gatherings, v_c_Items] :: C⟩) (w0 := ()) h
   ·exact (sb .refl)
   rintro i _ a h;unfold P_r4_Check_L1 at h;refine zH ⟨[], [(1, .ptr b1 0 3), (8, iv ((all33.length : Int))), (9, iv (i))], .row b1 3 [iv (c_Book_Signed), v_c_Book_Gatherings, v_c_Items] :: C⟩ rfl (zS (zU rfl (zM R4 (zF 2 R6 (zL 0 R3 R6 (zV R3 (Val.len_l h_c_Items M1 rfl rfl) ?_))))));obtain ⟨c43, hc43⟩ := zY (i < (c_Items.length : Int));refine zV R3 (Val.lss hc43 rfl rfl) (zN ?_);obtain ⟨rfl, hc43, h⟩ | ⟨rfl, hc43, h⟩ := zI hc43 h
   ·refine zC rfl (zK (zS (zB (zU rfl (zF 2 R6 (zL 0 R3 R6 (zM R4 ?_)))))));obtain ⟨a49, hia49, ea49, h⟩ := el_some h;refine TO.fact (rdl_at h_c_Items M1 hia49 ea49) (fun hp=>?_);obtain ⟨pa49, hpa49, hva49⟩ := hp;refine zV R3 (hva49 ⟨rfl, rfl⟩ rfl rfl) (zV R3 (Val.load_es (c := [_]) hpa49 M1 ⟨⟨_, rfl, rfl⟩, rfl, by decide⟩ rfl rfl rfl) (zM R4 ?_));obtain ⟨y52, hr52, h⟩ := andx_some h;refine TO.callT (first := []) (cap := []) (vs := [.agg [a49.could.v], iv ((all33.length : Int))]) rfl rfl rfl rfl rfl rfl (orcN rfl) (tf_r4_item (by first | decide | omega) (Rdl.mono (Rdl.gs (C := C) a49.could) M1) hr52) ?_;rintro _;refine zG (_::C) rfl (zA R4 (zN (zU rfl (zM R4 ?_))));obtain ⟨c54, hc54⟩ := zY (¬ y52 = 0);refine zV R3 (Val.neq hc54 rfl rfl) (zN ?_);obtain ⟨rfl, hc54, h⟩ | ⟨rfl, hc54, h⟩ := zI hc54 h
    ·refine zC rfl (zU rfl (zM R4 (zM R4 (zA R4 (zA R4 (zA R4 (zN (zR ?_))))))));cases h;exact ⟨ret_ne, ⟨ret_ne, ⟨rfl, _, rfl, ⟨(), rfl, (pk [98] rfl)⟩⟩⟩⟩
    refine zD rfl (zK (zT rfl (zM R4 ?_)));obtain ⟨hk45, h⟩ := chk_some h;refine zV R3 (Val.add rfl rfl hk45) (zA R4 (zN ?_));cases h;exact ⟨rfl, (), (sb .refl)⟩
   refine zD rfl (zE ?_);cases h;exact ⟨ex_ne, ⟨rfl, (), (sb .refl)⟩⟩
  ·rintro _ _ h;refine zH ⟨[], [(1, .ptr b1 0 3)], .row b1 3 [iv (c_Book_Signed), v_c_Book_Gatherings, v_c_Items] :: C⟩ rfl (zU rfl (zA R4 (zN ?_)))
   show T _ _ _ _ _ _;apply T.join (r := r) (W := Unit) (fun (j : Unit) (w : Unit) => ⟨[], [], .row b1 3 [iv (c_Book_Signed), v_c_Book_Gatherings, v_c_Items] :: C⟩) h
   ·intro j h;refine zU rfl (zA R4 (zN (zB ?_)))
    show T _ _ _ _ _ _;apply T.iter (r := j) (W := Unit) (fun (j : Int × Int) (w : Unit) => ⟨[], [(1, .ptr b1 0 3), (10, iv (j.1)), (11, iv (j.2))], .row b1 3 [iv (c_Book_Signed), v_c_Book_Gatherings, v_c_Items] :: C⟩) (w0 := ()) h
    ·exact (sb .refl)
    rintro ⟨doubts, i⟩ _ a h;unfold P_r4_Check_L2 at h;dsimp only at h;refine zH ⟨[], [(1, .ptr b1 0 3), (10, iv (doubts)), (11, iv (i))], .row b1 3 [iv (c_Book_Signed), v_c_Book_Gatherings, v_c_Items] :: C⟩ rfl (zS (zU rfl (zM R4 (zF 2 R6 (zL 0 R3 R6 (zV R3 (Val.len_l h_c_Items M1 rfl rfl) ?_))))));obtain ⟨c61, hc61⟩ := zY (i < (c_Items.length : Int));refine zV R3 (Val.lss hc61 rfl rfl) (zN ?_);obtain ⟨rfl, hc61, h⟩ | ⟨rfl, hc61, h⟩ := zI hc61 h
    ·refine zC rfl (zK ?_)
     show T _ _ _ _ _ _;apply T.join (r := a) (W := Unit) (fun (j : Int) (w : Unit) => ⟨[], [(1, .ptr b1 0 3), (10, iv (j)), (11, iv (i))], .row b1 3 [iv (c_Book_Signed), v_c_Book_Gatherings, v_c_Items] :: C⟩) h
     ·intro j h;refine zB ?_
      show T _ _ _ _ _ _;apply T.joinA (r := j) (W := Unit) (fun (j : Int) (w : Unit) => ⟨[], [(1, .ptr b1 0 3), (10, iv (j)), (11, iv (i))], .row b1 3 [iv (c_Book_Signed), v_c_Book_Gatherings, v_c_Items] :: C⟩) h
      ·intro j h;refine zU rfl (zF 2 R6 (zL 0 R3 R6 (zM R4 ?_)));obtain ⟨a67, hia67, ea67, h⟩ := el_some h;refine TO.fact (rdl_at h_c_Items M1 hia67 ea67) (fun hp=>?_);obtain ⟨pa67, hpa67, hva67⟩ := hp;refine zV R3 (hva67 ⟨rfl, rfl⟩ rfl rfl) (zV R3 (Val.faddr_e (fo := 0) hpa67 rfl rfl rfl) (zV R3 (Val.load_e (PtE.add hpa67 (by decide)) M1 ⟨_, rfl, rfl⟩ rfl rfl) (zV R3 (Val.len_gs rfl rfl) ?_)));obtain ⟨c71, hc71⟩ := zY ((a67.could.l.length : Int) > 1);refine zV R3 (Val.gtr hc71 rfl rfl) (zN ?_);obtain ⟨rfl, hc71, h⟩ | ⟨rfl, hc71, h⟩ := zI hc71 h
       ·refine zC rfl (zT rfl (zM R4 ?_));obtain ⟨hk73, h⟩ := chk_some h;refine zV R3 (Val.add rfl rfl hk73) (zA R4 (zN ?_));cases h;exact ⟨rfl, (), (sb .refl)⟩
       refine zD rfl (zK ?_);cases h;exact ⟨rfl, (), (sb .refl)⟩
      ·rintro doubts_2 _ h;refine zH ⟨[], [(1, .ptr b1 0 3), (10, iv (doubts_2)), (11, iv (i))], .row b1 3 [iv (c_Book_Signed), v_c_Book_Gatherings, v_c_Items] :: C⟩ rfl (zU rfl (zM R4 ?_));obtain ⟨c75, hc75⟩ := zY (doubts_2 > 3);refine zV R3 (Val.gtr hc75 rfl rfl) (zN ?_);obtain ⟨rfl, hc75, h⟩ | ⟨rfl, hc75, h⟩ := zI hc75 h
       ·refine zC rfl (zU rfl (zM R4 (zA R4 (zA R4 (zA R4 (zN (zR ?_)))))));cases h;exact ⟨ret_ne, ⟨ret_ne, ⟨ret_ne, ⟨rfl, _, rfl, ⟨(), rfl, (pk [98] rfl)⟩⟩⟩⟩⟩
       refine zD rfl (zK ?_);cases h;exact ⟨rfl, (), (sb .refl)⟩
     ·rintro doubts_2 _ h;refine zH ⟨[], [(1, .ptr b1 0 3), (10, iv (doubts_2)), (11, iv (i))], .row b1 3 [iv (c_Book_Signed), v_c_Book_Gatherings, v_c_Items] :: C⟩ rfl (zT rfl (zM R4 ?_));obtain ⟨hk63, h⟩ := chk_some h;refine zV R3 (Val.add rfl rfl hk63) (zA R4 (zN ?_));cases h;exact ⟨rfl, (), (sb .refl)⟩
    refine zD rfl (zE ?_);cases h;exact ⟨ex_ne, ⟨rfl, (), (sb .refl)⟩⟩
   ·rintro _ _ h;refine zH ⟨[], [], .row b1 3 [iv (c_Book_Signed), v_c_Book_Gatherings, v_c_Items] :: C⟩ rfl (zU rfl (zA R4 (zA R4 (zA R4 (zN (zR ?_))))));cases h;exact ⟨rfl, _, rfl, ⟨(), rfl, (pk [98] rfl)⟩⟩
theorem w_r4_Check (c_Book_Signed : Int) (c_Book_Gatherings : GS encG) (c_Items : GS encIt) (r : Int × Int × Int) (h : P_r4_Check c_Book_Signed c_Book_Gatherings.l c_Items.l = some r) : Comes (EL 4) 29 [.agg [iv (c_Book_Signed), c_Book_Gatherings.v, c_Items.v]] (.tuple [iv r.1, iv r.2.1, iv r.2.2]) :=
 TF.run (tf_r4_Check (Nat.le_refl _) (RdT.gs c_Book_Gatherings) (RdT.gs c_Items) h) fun w => (.tuple (.cons .lit (.cons .lit (.cons .lit .nil))))
set_option maxRecDepth 10000 in
theorem tf_r4_All {k : Nat} (hk : 0 ≤ k) {C : List Thing} {c_Book_Signed : Int} {v_c_Book_Gatherings : AV} {c_Book_Gatherings : List Gat} {v_c_Items : AV} {c_Items : List Item} (ht_c_Book_Gatherings : RdT encG v_c_Book_Gatherings c_Book_Gatherings) (ht_c_Items : RdT encIt v_c_Items c_Items) {r : (List (List Int)) × Bool} (h : P_r4_All c_Book_Signed c_Book_Gatherings c_Items = some r) :
  TF (EL k) 36 [.agg [iv (c_Book_Signed), v_c_Book_Gatherings, v_c_Items]] C (RepF (fun (w : AV × (List AV)) => w.1) (fun (w : AV × (List AV)) => nestH r.2 w.1 r.1 w.2 :: (seg encI w.2 r.1 ++ C))) := by
 unfold P_r4_All at h
 have h_c_Book_Gatherings : Rdl C encG v_c_Book_Gatherings c_Book_Gatherings := RdT.rdl ht_c_Book_Gatherings
 have h_c_Items : Rdl C encIt v_c_Items c_Items := RdT.rdl ht_c_Items;refine TF.enter (fn := Go.Proofs.Tryz.f36) rfl rfl rfl rfl rfl (zU rfl (zQ 3 [_,_,_] R7 (fun b1=>zA R4 (zN (zU rfl (TO.nilown (u := encI.u) (TO.fact (own_cellS (p := 0) rfl) (fun hot2=>TO.eff rfl rfl rfl (Eff.new (New.buildSlice (en := encAV) (l := [nilS]) (vs := [(_, _)]) (ws := [(_, [_])]) ⟨rfl, rfl⟩ rfl rfl rfl rfl (CellsL.cons hot2.1 CellsL.nil) rfl rfl)) ?_))))))));rintro _ _ ⟨v9_2, rfl, rfl⟩;refine TO.less (Less.rowOwn (en := encAV) (l := [nilS]) (p := 0) rfl) (zG (_::_::_::C) rfl (TO.less (Pk.less (Pk.pick (p := 0) rfl (Pk.pick (p := 1) rfl (Pk.pick (p := 0) rfl Pk.refl)))) (zG (_::_::(seg encI [nilS] [([] : List Int)] ++ C)) rfl (zA R4 (zN ?_)))))
 show T _ _ _ _ _ _;apply T.joinA (r := r) (W := AV × (List AV)) (fun (j : (List (List Int)) × Bool) (w : AV × (List AV)) => ⟨[], [(3, w.1)], nestH j.2 w.1 j.1 w.2 :: .row b1 3 [iv (c_Book_Signed), v_c_Book_Gatherings, v_c_Items] :: (seg encI w.2 j.1 ++ C)⟩) h
 ·intro j h;refine zU rfl (zA R4 (zN (zB ?_)))
  show T _ _ _ _ _ _;apply T.iter (r := j) (W := AV × (List AV)) (fun (j : Int × (List (List Int)) × Bool) (w : AV × (List AV)) => ⟨[], [(1, .ptr b1 0 3), (3, w.1), (4, iv (j.1))], nestH j.2.2 w.1 j.2.1 w.2 :: .row b1 3 [iv (c_Book_Signed), v_c_Book_Gatherings, v_c_Items] :: (seg encI w.2 j.2.1 ++ C)⟩) (w0 := ((.slice v9_2 0 (List.flatMap encAV.f [nilS]).length true (List.length [nilS]) (List.length [nilS])), [nilS])) h
  ·exact (sb .refl)
  rintro ⟨i, l9, z⟩ ⟨vn4, wsn4⟩ a h;unfold P_r4_All_L1 at h;dsimp only at h;refine zH ⟨[], [(1, .ptr b1 0 3), (3, vn4), (4, iv (i))], nestH z vn4 l9 wsn4 :: .row b1 3 [iv (c_Book_Signed), v_c_Book_Gatherings, v_c_Items] :: (seg encI wsn4 l9 ++ C)⟩ rfl (zS (zU rfl (zM R4 (zF 2 R6 (zL 1 R3 R6 (zV R3 (Val.len_l h_c_Items (memS (memS (memG mem0))) rfl rfl) ?_))))));obtain ⟨c14, hc14⟩ := zY (i < (c_Items.length : Int));refine zV R3 (Val.lss hc14 rfl rfl) (zN ?_);obtain ⟨rfl, hc14, h⟩ | ⟨rfl, hc14, h⟩ := zI hc14 h
  ·refine zC rfl (zK ?_)
   show T _ _ _ _ _ _;apply T.joinA (r := a) (W := AV × (List AV)) (fun (j : (List (List Int))) (w : AV × (List AV)) => ⟨[], [(1, .ptr b1 0 3), (3, w.1), (4, iv (i))], nestH true w.1 j w.2 :: nestH z vn4 l9 wsn4 :: .row b1 3 [iv (c_Book_Signed), v_c_Book_Gatherings, v_c_Items] :: (seg encI w.2 j ++ (seg encI wsn4 l9 ++ C))⟩) h
   ·intro j h;refine zB (zU rfl (zF 2 R6 (zL 1 R3 R6 (zM R4 ?_))));obtain ⟨a20, hia20, ea20, h⟩ := el_some h;refine TO.fact (rdl_at h_c_Items (memS (memS (memG mem0))) hia20 ea20) (fun hp=>?_);obtain ⟨pa20, hpa20, hva20⟩ := hp;refine zV R3 (hva20 ⟨rfl, rfl⟩ rfl rfl) (zV R3 (Val.faddr_e (fo := 0) hpa20 rfl rfl rfl) (zV R3 (Val.load_e (PtE.add hpa20 (by decide)) (memS (memS (memG mem0))) ⟨_, rfl, rfl⟩ rfl rfl) (zA R4 (zN (zS (zU rfl (zM R4 (zV R3 (Val.len_gs rfl rfl) ?_))))))));obtain ⟨c25, hc25⟩ := zY ((a20.could.l.length : Int) = 0);refine zV R3 (Val.eql hc25 rfl rfl) (zN ?_);obtain ⟨rfl, hc25, h⟩ | ⟨rfl, hc25, h⟩ := zI hc25 h
    ·refine zC rfl (zT rfl (TO.build1 (en := encI) (a := (-1)) rfl rfl rfl ⟨rfl, rfl⟩ ⟨_, rfl, rfl⟩ (by decide) (by decide) rfl rfl (fun v26=>zA R4 (zN (zU rfl (zA R4 (zN ?_)))))))
     show T _ _ _ _ _ _;apply T.joinA (r := j) (W := AV × (List AV)) (fun (j : (List (List Int))) (w : AV × (List AV)) => ⟨[], [(1, .ptr b1 0 3), (4, iv (i)), (6, w.1)], nestH true w.1 j w.2 :: ownL false v26 encI [(-1)] :: nestH z vn4 l9 wsn4 :: .row b1 3 [iv (c_Book_Signed), v_c_Book_Gatherings, v_c_Items] :: (seg encI w.2 j ++ (seg encI wsn4 l9 ++ C))⟩) h
     ·intro j h;refine zU rfl (zA R4 (zN (zB (T.nilown (u := 1) (T.things (hs' := nestH true nilS ([] : List (List Int)) [] :: ownL false v26 encI [(-1)] :: nestH z vn4 l9 wsn4 :: .row b1 3 [iv (c_Book_Signed), v_c_Book_Gatherings, v_c_Items] :: (seg encI [] ([] : List (List Int)) ++ (seg encI wsn4 l9 ++ C))) rfl ?_)))))
      show T _ _ _ _ _ _;apply T.iter (r := j) (W := AV × (List AV)) (fun (j : Int × (List (List Int))) (w : AV × (List AV)) => ⟨[], [(1, .ptr b1 0 3), (3, vn4), (4, iv (i)), (5, v26), (6, w.1), (7, iv (j.1))], nestH true w.1 j.2 w.2 :: ownL false v26 encI [(-1)] :: nestH z vn4 l9 wsn4 :: .row b1 3 [iv (c_Book_Signed), v_c_Book_Gatherings, v_c_Items] :: (seg encI w.2 j.2 ++ (seg encI wsn4 l9 ++ C))⟩) (w0 := (nilS, [])) h
      ·exact (sb .refl)
      rintro ⟨k_, next⟩ ⟨vn8, wsn8⟩ a h;unfold P_r4_All_L2 at h;dsimp only at h;refine zH ⟨[], [(1, .ptr b1 0 3), (3, vn4), (4, iv (i)), (5, v26), (6, vn8), (7, iv (k_))], nestH true vn8 next wsn8 :: ownL false v26 encI [(-1)] :: nestH z vn4 l9 wsn4 :: .row b1 3 [iv (c_Book_Signed), v_c_Book_Gatherings, v_c_Items] :: (seg encI wsn8 next ++ (seg encI wsn4 l9 ++ C))⟩ rfl (zS (zU rfl (zM R4 (zM R4 (zV R3 (Val.len_nest (p := 2) rfl rfl rfl) ?_)))));obtain ⟨c30, hc30⟩ := zY (k_ < (l9.length : Int));refine zV R3 (Val.lss hc30 rfl rfl) (zN ?_);obtain ⟨rfl, hc30, h⟩ | ⟨rfl, hc30, h⟩ := zI hc30 h
      ·refine zC rfl (zK ?_)
       show T _ _ _ _ _ _;apply T.joinA (r := a) (W := AV × (List AV)) (fun (j : (List (List Int))) (w : AV × (List AV)) => ⟨[], [(1, .ptr b1 0 3), (3, vn4), (4, iv (i)), (5, v26), (6, w.1), (7, iv (k_))], nestH true w.1 j w.2 :: ownL false v26 encI [(-1)] :: nestH z vn4 l9 wsn4 :: .row b1 3 [iv (c_Book_Signed), v_c_Book_Gatherings, v_c_Items] :: (seg encI w.2 j ++ (seg encI wsn4 l9 ++ C))⟩) h
       ·intro j h;refine zB (zU rfl (zA R4 (zN (zB ?_))))
        show T _ _ _ _ _ _;apply T.iter (r := j) (W := AV × (List AV)) (fun (j : Int × (List (List Int))) (w : AV × (List AV)) => ⟨[], [(1, .ptr b1 0 3), (3, vn4), (4, iv (i)), (5, v26), (6, w.1), (7, iv (k_)), (8, iv (j.1))], nestH true w.1 j.2 w.2 :: ownL false v26 encI [(-1)] :: nestH z vn4 l9 wsn4 :: .row b1 3 [iv (c_Book_Signed), v_c_Book_Gatherings, v_c_Items] :: (seg encI w.2 j.2 ++ (seg encI wsn4 l9 ++ C))⟩) (w0 := (vn8, wsn8)) h
        ·exact (sb .refl)
        rintro ⟨n, next_2⟩ ⟨vn8_2, wsn8_2⟩ a h;unfold P_r4_All_L3 at h;dsimp only at h;refine zH ⟨[], [(1, .ptr b1 0 3), (3, vn4), (4, iv (i)), (5, v26), (6, vn8_2), (7, iv (k_)), (8, iv (n))], nestH true vn8_2 next_2 wsn8_2 :: ownL false v26 encI [(-1)] :: nestH z vn4 l9 wsn4 :: .row b1 3 [iv (c_Book_Signed), v_c_Book_Gatherings, v_c_Items] :: (seg encI wsn8_2 next_2 ++ (seg encI wsn4 l9 ++ C))⟩ rfl (zS (zU rfl (zM R4 (zM R4 (zV R3 (Val.len_own (p := 1) rfl rfl rfl) ?_)))));obtain ⟨c36, hc36⟩ := zY (n < ([(-1)].length : Int));refine zV R3 (Val.lss hc36 rfl rfl) (zN ?_);obtain ⟨rfl, hc36, h⟩ | ⟨rfl, hc36, h⟩ := zI hc36 h
        ·refine zC rfl (zK (zS (zB (T.drawE (l1 := [0, 1, 2, 3, 4, 5, 7, 8, 9, 10, 11]) (l2 := [6, 12, 13, 14, 15]) (by kernel_rfl) (by kernel_rfl) (yL R4 (Val.move rfl) (TD1.floatN rfl rfl rfl rfl (New.buildSlice (en := encI) (l := ([] : List Int)) (vs := []) (ws := []) ⟨rfl, rfl⟩ rfl rfl rfl rfl CellsL.nil rfl rfl) (fun v40=>yL R4 (Val.move rfl) (yL R4 (Val.move rfl) ?_))))))));obtain ⟨a43, hia43, ea43, h⟩ := el_some h;refine TD1.fact (nest_at (en := encI) (p := 3) rfl hia43 ea43) (fun hp=>?_);obtain ⟨ida43, wa43, ata43, ewa43, hma43⟩ := hp;refine yL R4 (Val.iaddr_nest ata43 ⟨rfl, rfl⟩ rfl rfl hia43) (yR R4 (Val.load_nest (p := 3) rfl ata43 ⟨_, rfl, rfl⟩ rfl ewa43) ?_)
         have hna43 : Rdl (seg encI wsn8_2 next_2 ++ (seg encI wsn4 l9 ++ C)) encI wa43 a43 := .inr ⟨true, (List.mem_append_right _ (List.mem_append_left _ hma43))⟩;refine yL R4 (Val.move rfl) (yL R4 (Val.move rfl) ?_);obtain ⟨a48, hia48, ea48, h⟩ := el_some h;refine TD1.fact (own_at (en := encI) (p := 2) rfl hia48) (fun hp=>?_);obtain ⟨ida48, ata48⟩ := hp;refine yL R4 (Val.iaddr_at (en := encI) ata48 ⟨rfl, rfl⟩ rfl rfl hia48) (yR R4 (Val.load_ownL (en := encI) (p := 2) (j := 0) rfl ata48 ⟨_, rfl, rfl⟩ rfl ea48 rfl) (TD1.floatN rfl rfl rfl rfl (New.buildSlice (en := encI) (l := [a48]) (vs := [(_, _)]) (ws := [(_, [_])]) ⟨rfl, rfl⟩ rfl rfl rfl rfl (CellsL.cons rfl CellsL.nil) rfl rfl) (fun v50=>TD1.over (fun v => sameC_refl v) (all_cons (⟨_, rfl, (Val.load_ownL (en := encI) (p := 3) (j := 0) rfl ata48 ⟨_, rfl, rfl⟩ rfl ea48 rfl)⟩) (all_cons (⟨_, rfl, (Val.load_nest (p := 4) rfl ata43 ⟨_, rfl, rfl⟩ rfl ewa43)⟩) all_nil)) (TD2.less (Less.floatOwn (en := encI) (l := ([] : List Int)) (p := 1) rfl) (yG (_::_::_::_::_::_::(seg encI wsn8_2 next_2 ++ (seg encI wsn4 l9 ++ C))) rfl ?_)))));obtain ⟨hk45, h⟩ := chk_some h;refine TD2.heavy (fun v => sameC_refl v) rfl (by decide) rfl rfl (OpS.eff (Eff.append_l (b := 8) (en := encI) (l := ([] : List Int)) (p := 1) ⟨rfl, rfl, rfl, ⟨_, rfl, rfl⟩, by decide, by decide⟩ rfl rfl rfl hna43 M6 rfl rfl (flat_ones _) (by decide) hk45)) ?_;rintro v45 _ rfl;refine ⟨(all_cons (.inr ⟨_, rfl, (Val.load_ownL (en := encI) (p := 3) (j := 0) rfl ata48 ⟨_, rfl, rfl⟩ rfl ea48 rfl)⟩) (all_cons (.inl (by kernel_rfl)) all_nil)), (all_cons (.inr (by repeat first | exact List.mem_cons_self | apply List.mem_cons_of_mem)) (all_cons (.inl (by kernel_rfl)) all_nil)), ?_⟩;refine yG (_::_::_::_::_::_::(seg encI wsn8_2 next_2 ++ (seg encI wsn4 l9 ++ C))) rfl (TD2.less (Less.floatOwn (en := encI) (l := [a48]) (p := 0) rfl) (yG (_::_::_::_::_::_::(seg encI wsn8_2 next_2 ++ (seg encI wsn4 l9 ++ C))) rfl ?_));obtain ⟨hk51, h⟩ := chk_some h;refine TD2.heavy (fun v => sameC_refl v) rfl (by decide) rfl rfl (OpS.eff (Eff.append_own (b := 8) (en := encI) (l := (([] : List Int) ++ a43)) (l2 := [a48]) (p := 1) (q := 0) ⟨rfl, rfl, rfl, ⟨_, rfl, rfl⟩, by decide, by decide⟩ rfl rfl rfl rfl rfl rfl (flat_ones _) (by decide) hk51)) ?_;rintro v51 _ rfl;refine ⟨(all_cons (.inl (by kernel_rfl)) (all_cons (.inl (by kernel_rfl)) all_nil)), (all_cons (.inl (by kernel_rfl)) (all_cons (.inl (by kernel_rfl)) all_nil)), ?_⟩;refine yG (_::_::_::_::_::_::(seg encI wsn8_2 next_2 ++ (seg encI wsn4 l9 ++ C))) rfl (TD2.less (Less.ownTrue (p := 1) rfl (.inr (by simp))) (yG (_::_::_::_::_::_::(seg encI wsn8_2 next_2 ++ (seg encI wsn4 l9 ++ C))) rfl (TD2.fact (own_cellS (p := 1) rfl) (fun hot9=>TD2.heavy (fun v => sameC_refl v) rfl (by decide) rfl rfl (OpS.eff (Eff.new (New.buildSlice (en := encAV) (l := [v51]) (vs := [(_, _)]) (ws := [(_, [_])]) ⟨rfl, rfl⟩ rfl rfl rfl rfl (CellsL.cons hot9.1 CellsL.nil) rfl rfl))) ?_))));rintro _ _ ⟨v52_2, rfl, rfl⟩;refine ⟨(all_cons (.inl (by kernel_rfl)) (all_cons (.inl (by kernel_rfl)) all_nil)), (all_cons (.inl (by kernel_rfl)) (all_cons (.inl (by kernel_rfl)) all_nil)), ?_⟩
         refine TD2.less (Less.rowOwn (en := encAV) (l := [v51]) (p := 0) rfl) (yG (_::_::_::_::_::_::_::(seg encI wsn8_2 next_2 ++ (seg encI wsn4 l9 ++ C))) rfl (TD2.less (Pk.less (Pk.pick (p := 0) rfl (Pk.pick (p := 0) rfl (Pk.pick (p := 1) rfl (Pk.pick (p := 1) rfl (Pk.pick (p := 1) rfl (Pk.pick (p := 1) rfl (Pk.pick (p := 0) rfl Pk.refl)))))))) (yG (_::_::_::_::_::_::(seg encI [v51] [(([] : List Int) ++ a43) ++ [a48]] ++ (seg encI wsn8_2 next_2 ++ (seg encI wsn4 l9 ++ C)))) rfl ?_)));obtain ⟨hk53, h⟩ := chk_some h;refine TD2.fact (nest_len (p := 2) rfl) (fun hl53=>TD2.fact (nest_len (p := 0) rfl) (fun hm53=>TD2.heavy (fun v => sameC_refl v) rfl (by decide) rfl rfl (OpS.eff (Eff.append_nest (b := 24) (ls := next_2) (ls2 := [(([] : List Int) ++ a43) ++ [a48]]) (p := 2) (q := 0) ⟨rfl, rfl, rfl, ⟨_, rfl, rfl⟩, by decide, by decide⟩ rfl rfl rfl rfl rfl rfl (seg_ones (en := encI) hm53 (fun x hx => M6 x (List.mem_append_left _ hx))) (by decide) hk53)) ?_));rintro v53 _ rfl;refine ⟨(all_cons (.inl (by kernel_rfl)) (all_cons (.inl (by kernel_rfl)) all_nil)), (all_cons (.inl (by kernel_rfl)) (all_cons (.inl (by kernel_rfl)) all_nil)), ?_⟩;refine yG ([nestH false (.slice v52_2 0 (List.flatMap encAV.f [v51]).length true (List.length [v51]) (List.length [v51])) [(([] : List Int) ++ a43) ++ [a48]] [v51], ownL false (.slice v50 0 (List.flatMap encI.f [a48]).length true (List.length [a48]) (List.length [a48])) encI [a48], nestH true v53 (next_2 ++ [(([] : List Int) ++ a43) ++ [a48]]) (wsn8_2 ++ [v51]), ownL false v26 encI [(-1)], nestH z vn4 l9 wsn4, .row b1 3 [iv (c_Book_Signed), v_c_Book_Gatherings, v_c_Items]] ++ (seg encI [v51] [(([] : List Int) ++ a43) ++ [a48]] ++ (seg encI wsn8_2 next_2 ++ (seg encI wsn4 l9 ++ C)))) rfl (TD2.less (Less.cat [nestH false (.slice v52_2 0 (List.flatMap encAV.f [v51]).length true (List.length [v51]) (List.length [v51])) [(([] : List Int) ++ a43) ++ [a48]] [v51], ownL false (.slice v50 0 (List.flatMap encI.f [a48]).length true (List.length [a48]) (List.length [a48])) encI [a48], nestH true v53 (next_2 ++ [(([] : List Int) ++ a43) ++ [a48]]) (wsn8_2 ++ [v51]), ownL false v26 encI [(-1)], nestH z vn4 l9 wsn4, .row b1 3 [iv (c_Book_Signed), v_c_Book_Gatherings, v_c_Items]] hl53) (yG (_::_::_::_::_::_::(seg encI (wsn8_2 ++ [v51]) (next_2 ++ [(([] : List Int) ++ a43) ++ [a48]]) ++ (seg encI wsn4 l9 ++ C))) rfl ?_));refine yM R4 (Val.assign rfl) (TD2.nil (zT rfl (zM R4 ?_)));obtain ⟨hk38, h⟩ := chk_some h;refine zV R3 (Val.add rfl rfl hk38) (zA R4 (zN ?_));cases h;exact ⟨rfl, (v53, wsn8_2 ++ [v51]), (sb (pk [2,2,2,2,98,98] rfl))⟩
        refine zD rfl (zE ?_);cases h;exact ⟨ex_ne, ⟨rfl, (vn8_2, wsn8_2), (sb .refl)⟩⟩
       ·rintro next_2 ⟨vn8_2, wsn8_2⟩ h;refine zH ⟨[], [(1, .ptr b1 0 3), (3, vn4), (4, iv (i)), (5, v26), (6, vn8_2), (7, iv (k_))], nestH true vn8_2 next_2 wsn8_2 :: ownL false v26 encI [(-1)] :: nestH z vn4 l9 wsn4 :: .row b1 3 [iv (c_Book_Signed), v_c_Book_Gatherings, v_c_Items] :: (seg encI wsn8_2 next_2 ++ (seg encI wsn4 l9 ++ C))⟩ rfl (zT rfl (zM R4 ?_));obtain ⟨hk32, h⟩ := chk_some h;refine zV R3 (Val.add rfl rfl hk32) (zA R4 (zN ?_));cases h;exact ⟨rfl, (vn8_2, wsn8_2), (sb .refl)⟩
      refine zD rfl (zE ?_);cases h;exact ⟨ex_ne, ⟨rfl, (vn8, wsn8), (sb .refl)⟩⟩
     ·rintro next ⟨vn8, wsn8⟩ h;refine zH ⟨[], [(1, .ptr b1 0 3), (4, iv (i)), (6, vn8)], nestH true vn8 next wsn8 :: ownL false v26 encI [(-1)] :: nestH z vn4 l9 wsn4 :: .row b1 3 [iv (c_Book_Signed), v_c_Book_Gatherings, v_c_Items] :: (seg encI wsn8 next ++ (seg encI wsn4 l9 ++ C))⟩ rfl (zT rfl (zM R4 (zA R4 (zN ?_))));cases h;exact ⟨rfl, (vn8, wsn8), (sb (pk [0,1,1,98] rfl))⟩
    refine zD rfl (zK (zU rfl (zA R4 (zN ?_))))
    show T _ _ _ _ _ _;apply T.joinA (r := j) (W := AV × (List AV)) (fun (j : (List (List Int))) (w : AV × (List AV)) => ⟨[], [(1, .ptr b1 0 3), (4, iv (i)), (6, w.1)], nestH true w.1 j w.2 :: nestH z vn4 l9 wsn4 :: .row b1 3 [iv (c_Book_Signed), v_c_Book_Gatherings, v_c_Items] :: (seg encI w.2 j ++ (seg encI wsn4 l9 ++ C))⟩) h
    ·intro j h;refine zU rfl (zA R4 (zN (zB (T.nilown (u := 1) (T.things (hs' := nestH true nilS ([] : List (List Int)) [] :: nestH z vn4 l9 wsn4 :: .row b1 3 [iv (c_Book_Signed), v_c_Book_Gatherings, v_c_Items] :: (seg encI [] ([] : List (List Int)) ++ (seg encI wsn4 l9 ++ C))) rfl ?_)))))
     show T _ _ _ _ _ _;apply T.iter (r := j) (W := AV × (List AV)) (fun (j : Int × (List (List Int))) (w : AV × (List AV)) => ⟨[], [(1, .ptr b1 0 3), (3, vn4), (4, iv (i)), (5, a20.could.v), (6, w.1), (7, iv (j.1))], nestH true w.1 j.2 w.2 :: nestH z vn4 l9 wsn4 :: .row b1 3 [iv (c_Book_Signed), v_c_Book_Gatherings, v_c_Items] :: (seg encI w.2 j.2 ++ (seg encI wsn4 l9 ++ C))⟩) (w0 := (nilS, [])) h
     ·exact (sb .refl)
     rintro ⟨k_, next⟩ ⟨vn14, wsn14⟩ a h;unfold P_r4_All_L4 at h;dsimp only at h;refine zH ⟨[], [(1, .ptr b1 0 3), (3, vn4), (4, iv (i)), (5, a20.could.v), (6, vn14), (7, iv (k_))], nestH true vn14 next wsn14 :: nestH z vn4 l9 wsn4 :: .row b1 3 [iv (c_Book_Signed), v_c_Book_Gatherings, v_c_Items] :: (seg encI wsn14 next ++ (seg encI wsn4 l9 ++ C))⟩ rfl (zS (zU rfl (zM R4 (zM R4 (zV R3 (Val.len_nest (p := 1) rfl rfl rfl) ?_)))));obtain ⟨c30, hc30⟩ := zY (k_ < (l9.length : Int));refine zV R3 (Val.lss hc30 rfl rfl) (zN ?_);obtain ⟨rfl, hc30, h⟩ | ⟨rfl, hc30, h⟩ := zI hc30 h
     ·refine zC rfl (zK ?_)
      show T _ _ _ _ _ _;apply T.joinA (r := a) (W := AV × (List AV)) (fun (j : (List (List Int))) (w : AV × (List AV)) => ⟨[], [(1, .ptr b1 0 3), (3, vn4), (4, iv (i)), (5, a20.could.v), (6, w.1), (7, iv (k_))], nestH true w.1 j w.2 :: nestH z vn4 l9 wsn4 :: .row b1 3 [iv (c_Book_Signed), v_c_Book_Gatherings, v_c_Items] :: (seg encI w.2 j ++ (seg encI wsn4 l9 ++ C))⟩) h
      ·intro j h;refine zB (zU rfl (zA R4 (zN (zB ?_))))
       show T _ _ _ _ _ _;apply T.iter (r := j) (W := AV × (List AV)) (fun (j : Int × (List (List Int))) (w : AV × (List AV)) => ⟨[], [(1, .ptr b1 0 3), (3, vn4), (4, iv (i)), (5, a20.could.v), (6, w.1), (7, iv (k_)), (8, iv (j.1))], nestH true w.1 j.2 w.2 :: nestH z vn4 l9 wsn4 :: .row b1 3 [iv (c_Book_Signed), v_c_Book_Gatherings, v_c_Items] :: (seg encI w.2 j.2 ++ (seg encI wsn4 l9 ++ C))⟩) (w0 := (vn14, wsn14)) h
       ·exact (sb .refl)
       rintro ⟨n, next_2⟩ ⟨vn14_2, wsn14_2⟩ a h;unfold P_r4_All_L5 at h;dsimp only at h;refine zH ⟨[], [(1, .ptr b1 0 3), (3, vn4), (4, iv (i)), (5, a20.could.v), (6, vn14_2), (7, iv (k_)), (8, iv (n))], nestH true vn14_2 next_2 wsn14_2 :: nestH z vn4 l9 wsn4 :: .row b1 3 [iv (c_Book_Signed), v_c_Book_Gatherings, v_c_Items] :: (seg encI wsn14_2 next_2 ++ (seg encI wsn4 l9 ++ C))⟩ rfl (zS (zU rfl (zM R4 (zM R4 (zV R3 (Val.len_gs rfl rfl) ?_)))));obtain ⟨c36, hc36⟩ := zY (n < (a20.could.l.length : Int));refine zV R3 (Val.lss hc36 rfl rfl) (zN ?_);obtain ⟨rfl, hc36, h⟩ | ⟨rfl, hc36, h⟩ := zI hc36 h
       ·refine zC rfl (zK (zS (zB (T.drawE (l1 := [0, 1, 2, 3, 4, 5, 7, 8, 9, 10, 11]) (l2 := [6, 12, 13, 14, 15]) (by kernel_rfl) (by kernel_rfl) (yL R4 (Val.move rfl) (TD1.floatN rfl rfl rfl rfl (New.buildSlice (en := encI) (l := ([] : List Int)) (vs := []) (ws := []) ⟨rfl, rfl⟩ rfl rfl rfl rfl CellsL.nil rfl rfl) (fun v40=>yL R4 (Val.move rfl) (yL R4 (Val.move rfl) ?_))))))));obtain ⟨a43, hia43, ea43, h⟩ := el_some h;refine TD1.fact (nest_at (en := encI) (p := 2) rfl hia43 ea43) (fun hp=>?_);obtain ⟨ida43, wa43, ata43, ewa43, hma43⟩ := hp;refine yL R4 (Val.iaddr_nest ata43 ⟨rfl, rfl⟩ rfl rfl hia43) (yR R4 (Val.load_nest (p := 2) rfl ata43 ⟨_, rfl, rfl⟩ rfl ewa43) ?_)
        have hna43 : Rdl (seg encI wsn14_2 next_2 ++ (seg encI wsn4 l9 ++ C)) encI wa43 a43 := .inr ⟨true, (List.mem_append_right _ (List.mem_append_left _ hma43))⟩;refine yL R4 (Val.move rfl) (yL R4 (Val.move rfl) ?_);obtain ⟨a48, hia48, ea48, h⟩ := el_some h;refine TD1.fact (rdl_at (Rdl.gs (C := C) a20.could) (memS (memS (memS (memS (memG (memG mem0)))))) hia48 ea48) (fun hp=>?_);obtain ⟨pa48, hpa48, hva48⟩ := hp;refine yL R4 (hva48 ⟨rfl, rfl⟩ rfl rfl) (yR R4 (Val.load_e hpa48 (memS (memS (memS (memS (memG (memG mem0)))))) ⟨_, rfl, rfl⟩ rfl rfl) (TD1.floatN rfl rfl rfl rfl (New.buildSlice (en := encI) (l := [a48]) (vs := [(_, _)]) (ws := [(_, [_])]) ⟨rfl, rfl⟩ rfl rfl rfl rfl (CellsL.cons rfl CellsL.nil) rfl rfl) (fun v50=>TD1.over (fun v => sameC_refl v) (all_cons (⟨_, rfl, (Val.load_e hpa48 (memS (memS (memS (memS (memS (memG (memG mem0))))))) ⟨_, rfl, rfl⟩ rfl rfl)⟩) (all_cons (⟨_, rfl, (Val.load_nest (p := 3) rfl ata43 ⟨_, rfl, rfl⟩ rfl ewa43)⟩) all_nil)) (TD2.less (Less.floatOwn (en := encI) (l := ([] : List Int)) (p := 1) rfl) (yG (_::_::_::_::_::(seg encI wsn14_2 next_2 ++ (seg encI wsn4 l9 ++ C))) rfl ?_)))));obtain ⟨hk45, h⟩ := chk_some h;refine TD2.heavy (fun v => sameC_refl v) rfl (by decide) rfl rfl (OpS.eff (Eff.append_l (b := 8) (en := encI) (l := ([] : List Int)) (p := 1) ⟨rfl, rfl, rfl, ⟨_, rfl, rfl⟩, by decide, by decide⟩ rfl rfl rfl hna43 M5 rfl rfl (flat_ones _) (by decide) hk45)) ?_;rintro v45 _ rfl;refine ⟨(all_cons (.inr ⟨_, rfl, (Val.load_e hpa48 (memS (memS (memS (memS (memS (memG (memG mem0))))))) ⟨_, rfl, rfl⟩ rfl rfl)⟩) (all_cons (.inl (by kernel_rfl)) all_nil)), (all_cons (.inr (by repeat first | exact List.mem_cons_self | apply List.mem_cons_of_mem)) (all_cons (.inl (by kernel_rfl)) all_nil)), ?_⟩;refine yG (_::_::_::_::_::(seg encI wsn14_2 next_2 ++ (seg encI wsn4 l9 ++ C))) rfl (TD2.less (Less.floatOwn (en := encI) (l := [a48]) (p := 0) rfl) (yG (_::_::_::_::_::(seg encI wsn14_2 next_2 ++ (seg encI wsn4 l9 ++ C))) rfl ?_));obtain ⟨hk51, h⟩ := chk_some h;refine TD2.heavy (fun v => sameC_refl v) rfl (by decide) rfl rfl (OpS.eff (Eff.append_own (b := 8) (en := encI) (l := (([] : List Int) ++ a43)) (l2 := [a48]) (p := 1) (q := 0) ⟨rfl, rfl, rfl, ⟨_, rfl, rfl⟩, by decide, by decide⟩ rfl rfl rfl rfl rfl rfl (flat_ones _) (by decide) hk51)) ?_;rintro v51 _ rfl;refine ⟨(all_cons (.inl (by kernel_rfl)) (all_cons (.inl (by kernel_rfl)) all_nil)), (all_cons (.inl (by kernel_rfl)) (all_cons (.inl (by kernel_rfl)) all_nil)), ?_⟩;refine yG (_::_::_::_::_::(seg encI wsn14_2 next_2 ++ (seg encI wsn4 l9 ++ C))) rfl (TD2.less (Less.ownTrue (p := 1) rfl (.inr (by simp))) (yG (_::_::_::_::_::(seg encI wsn14_2 next_2 ++ (seg encI wsn4 l9 ++ C))) rfl (TD2.fact (own_cellS (p := 1) rfl) (fun hot15=>TD2.heavy (fun v => sameC_refl v) rfl (by decide) rfl rfl (OpS.eff (Eff.new (New.buildSlice (en := encAV) (l := [v51]) (vs := [(_, _)]) (ws := [(_, [_])]) ⟨rfl, rfl⟩ rfl rfl rfl rfl (CellsL.cons hot15.1 CellsL.nil) rfl rfl))) ?_))));rintro _ _ ⟨v52_2, rfl, rfl⟩
        refine ⟨(all_cons (.inl (by kernel_rfl)) (all_cons (.inl (by kernel_rfl)) all_nil)), (all_cons (.inl (by kernel_rfl)) (all_cons (.inl (by kernel_rfl)) all_nil)), ?_⟩;refine TD2.less (Less.rowOwn (en := encAV) (l := [v51]) (p := 0) rfl) (yG (_::_::_::_::_::_::(seg encI wsn14_2 next_2 ++ (seg encI wsn4 l9 ++ C))) rfl (TD2.less (Pk.less (Pk.pick (p := 0) rfl (Pk.pick (p := 0) rfl (Pk.pick (p := 1) rfl (Pk.pick (p := 1) rfl (Pk.pick (p := 1) rfl (Pk.pick (p := 0) rfl Pk.refl))))))) (yG (_::_::_::_::_::(seg encI [v51] [(([] : List Int) ++ a43) ++ [a48]] ++ (seg encI wsn14_2 next_2 ++ (seg encI wsn4 l9 ++ C)))) rfl ?_)));obtain ⟨hk53, h⟩ := chk_some h;refine TD2.fact (nest_len (p := 2) rfl) (fun hl53=>TD2.fact (nest_len (p := 0) rfl) (fun hm53=>TD2.heavy (fun v => sameC_refl v) rfl (by decide) rfl rfl (OpS.eff (Eff.append_nest (b := 24) (ls := next_2) (ls2 := [(([] : List Int) ++ a43) ++ [a48]]) (p := 2) (q := 0) ⟨rfl, rfl, rfl, ⟨_, rfl, rfl⟩, by decide, by decide⟩ rfl rfl rfl rfl rfl rfl (seg_ones (en := encI) hm53 (fun x hx => M5 x (List.mem_append_left _ hx))) (by decide) hk53)) ?_));rintro v53 _ rfl;refine ⟨(all_cons (.inl (by kernel_rfl)) (all_cons (.inl (by kernel_rfl)) all_nil)), (all_cons (.inl (by kernel_rfl)) (all_cons (.inl (by kernel_rfl)) all_nil)), ?_⟩;refine yG ([nestH false (.slice v52_2 0 (List.flatMap encAV.f [v51]).length true (List.length [v51]) (List.length [v51])) [(([] : List Int) ++ a43) ++ [a48]] [v51], ownL false (.slice v50 0 (List.flatMap encI.f [a48]).length true (List.length [a48]) (List.length [a48])) encI [a48], nestH true v53 (next_2 ++ [(([] : List Int) ++ a43) ++ [a48]]) (wsn14_2 ++ [v51]), nestH z vn4 l9 wsn4, .row b1 3 [iv (c_Book_Signed), v_c_Book_Gatherings, v_c_Items]] ++ (seg encI [v51] [(([] : List Int) ++ a43) ++ [a48]] ++ (seg encI wsn14_2 next_2 ++ (seg encI wsn4 l9 ++ C)))) rfl (TD2.less (Less.cat [nestH false (.slice v52_2 0 (List.flatMap encAV.f [v51]).length true (List.length [v51]) (List.length [v51])) [(([] : List Int) ++ a43) ++ [a48]] [v51], ownL false (.slice v50 0 (List.flatMap encI.f [a48]).length true (List.length [a48]) (List.length [a48])) encI [a48], nestH true v53 (next_2 ++ [(([] : List Int) ++ a43) ++ [a48]]) (wsn14_2 ++ [v51]), nestH z vn4 l9 wsn4, .row b1 3 [iv (c_Book_Signed), v_c_Book_Gatherings, v_c_Items]] hl53) (yG (_::_::_::_::_::(seg encI (wsn14_2 ++ [v51]) (next_2 ++ [(([] : List Int) ++ a43) ++ [a48]]) ++ (seg encI wsn4 l9 ++ C))) rfl (yM R4 (Val.assign rfl) (TD2.nil (zT rfl (zM R4 ?_))))));obtain ⟨hk38, h⟩ := chk_some h;refine zV R3 (Val.add rfl rfl hk38) (zA R4 (zN ?_));cases h;exact ⟨rfl, (v53, wsn14_2 ++ [v51]), (sb (pk [2,2,2,98,98] rfl))⟩
       refine zD rfl (zE ?_);cases h;exact ⟨ex_ne, ⟨rfl, (vn14_2, wsn14_2), (sb .refl)⟩⟩
      ·rintro next_2 ⟨vn14_2, wsn14_2⟩ h;refine zH ⟨[], [(1, .ptr b1 0 3), (3, vn4), (4, iv (i)), (5, a20.could.v), (6, vn14_2), (7, iv (k_))], nestH true vn14_2 next_2 wsn14_2 :: nestH z vn4 l9 wsn4 :: .row b1 3 [iv (c_Book_Signed), v_c_Book_Gatherings, v_c_Items] :: (seg encI wsn14_2 next_2 ++ (seg encI wsn4 l9 ++ C))⟩ rfl (zT rfl (zM R4 ?_));obtain ⟨hk32, h⟩ := chk_some h;refine zV R3 (Val.add rfl rfl hk32) (zA R4 (zN ?_));cases h;exact ⟨rfl, (vn14_2, wsn14_2), (sb .refl)⟩
     refine zD rfl (zE ?_);cases h;exact ⟨ex_ne, ⟨rfl, (vn14, wsn14), (sb .refl)⟩⟩
    ·rintro next ⟨vn14, wsn14⟩ h;refine zH ⟨[], [(1, .ptr b1 0 3), (4, iv (i)), (6, vn14)], nestH true vn14 next wsn14 :: nestH z vn4 l9 wsn4 :: .row b1 3 [iv (c_Book_Signed), v_c_Book_Gatherings, v_c_Items] :: (seg encI wsn14 next ++ (seg encI wsn4 l9 ++ C))⟩ rfl (zT rfl (zM R4 (zA R4 (zN ?_))));cases h;exact ⟨rfl, (vn14, wsn14), (sb .refl)⟩
   ·rintro next ⟨vn8, wsn8⟩ h;refine zH ⟨[], [(1, .ptr b1 0 3), (3, vn8), (4, iv (i))], nestH true vn8 next wsn8 :: nestH z vn4 l9 wsn4 :: .row b1 3 [iv (c_Book_Signed), v_c_Book_Gatherings, v_c_Items] :: (seg encI wsn8 next ++ (seg encI wsn4 l9 ++ C))⟩ rfl (zT rfl (zM R4 ?_));obtain ⟨hk16, h⟩ := chk_some h;refine zV R3 (Val.add rfl rfl hk16) (zA R4 (zN ?_));cases h;exact ⟨rfl, (vn8, wsn8), (sb (.pick (p := 0) rfl (.pick (p := 1) rfl (.drop (.consA (.dropA .refl))))))⟩
  refine zD rfl (zE ?_);cases h;exact ⟨ex_ne, ⟨rfl, (vn4, wsn4), (sb .refl)⟩⟩
 ·rintro ⟨l9, z⟩ ⟨vn4, wsn4⟩ h;dsimp only at h;refine zH ⟨[], [(3, vn4)], nestH z vn4 l9 wsn4 :: .row b1 3 [iv (c_Book_Signed), v_c_Book_Gatherings, v_c_Items] :: (seg encI wsn4 l9 ++ C)⟩ rfl (zU rfl (zM R4 (zA R4 (zN (zR ?_)))));cases h;exact ⟨rfl, _, rfl, ⟨(vn4, wsn4), rfl, (pk [0,98] rfl)⟩⟩
theorem w_r4_All (c_Book_Signed : Int) (c_Book_Gatherings : GS encG) (c_Items : GS encIt) (r : (List (List Int)) × Bool) (h : P_r4_All c_Book_Signed c_Book_Gatherings.l c_Items.l = some r) : Comes (EL 0) 36 [.agg [iv (c_Book_Signed), c_Book_Gatherings.v, c_Items.v]] ((GSo r.2 (encSl encI) (List.map (GSo true encI) r.1)).v) :=
 TF.run (tf_r4_All (Nat.le_refl _) (RdT.gs c_Book_Gatherings) (RdT.gs c_Items) h) fun w => (.nest (p := 0) encI_lits rfl (fun x hx => M1 x (List.mem_append_left _ hx)))
end Go.Am.YthckcbfijdambaaGreat
end
section
namespace Go.Am
set_option linter.unusedVariables false
end Go.Am
end
section
namespace Go.Am.YthckcbfijdambaaGreat
open Go.Am Go.RowKit
set_option linter.unusedVariables false
set_option linter.unusedSimpArgs false
end Go.Am.YthckcbfijdambaaGreat
end
section
namespace Go.Am
set_option linter.unusedVariables false
noncomputable def P_r1_Inside (n : Int) (s_Lo : Int) (s_Hi : Int) : Option Bool :=
 andx (P_r1_in n s_Lo s_Hi) fun is_10 =>
  some is_10
end Go.Am
end
section
namespace Go.Am.YthckcbfijdambaaGreat
open Go.Am Go.RowKit
set_option linter.unusedVariables false
set_option linter.unusedSimpArgs false
set_option maxRecDepth 10000 in
theorem tf_r1_Inside {k : Nat} (hk : 1 ≤ k) {C : List Thing} {n : Int} {s_Lo : Int} {s_Hi : Int} {r : Bool} (h : P_r1_Inside n s_Lo s_Hi = some r) :
  TF (EL k) 20 [iv (n), .agg [iv (s_Lo), iv (s_Hi)]] C (RepF (fun (w : Unit) => bv r) (fun (w : Unit) => C)) := by
 unfold P_r1_Inside at h;refine TF.enter (fn := Go.Proofs.Tryz.f20) rfl rfl rfl rfl rfl (zU rfl (zQ 2 [_,_] R7 (fun b3=>zA R4 (zN (zU rfl (zM R4 (zF 0 R6 (zL 0 R3 R6 (zF 1 R6 (zL 0 R3 R6 ?_))))))))));obtain ⟨is_10, hr10, h⟩ := andx_some h;refine TO.call rfl rfl rfl rfl rfl (orcL rfl (by first | decide | omega)) (.cons .lit (.cons .lit (.cons .lit .nil))) (sem_of (w_r1_in n s_Lo s_Hi _ (by exact hr10))) (zA R4 (zN (zR ?_)));cases h;exact ⟨rfl, _, rfl, ⟨(), rfl, (pk [98] rfl)⟩⟩
end Go.Am.YthckcbfijdambaaGreat
end
section
namespace Go.Am
set_option linter.unusedVariables false
noncomputable def P_l_valid (c_Book_Signed : Int) (c_Book_Gatherings : List Gat) (c_Items : List Item) : Option Bool :=
 andx (P_r4_Check c_Book_Signed c_Book_Gatherings c_Items) fun (y8, y8_2, y8_3) =>
  some (decide (y8_3 = 0))
noncomputable def P_l_part_L1 (a_ : List Int) (b : List Int) : Int → Option (Stp Int (Ex Unit Bool)) := fun i =>
  if i < (a_.length : Int) then
    el a_ i fun a15 =>
    andx (P_r1_Has b a15) fun has17 =>
      if has17 = true then
        chk (I64 (i + 1)) (
          some (Stp.ag (i + 1)))
      else
        some (Stp.dn (Ex.rt false))
  else
    some (Stp.dn (Ex.nx ()))
noncomputable def P_l_part (a_ : List Int) (b : List Int) : Option Bool :=
  seqx (
    iter (P_l_part_L1 a_ b) 0) fun _ =>
    some true
noncomputable def P_law_CopyTrue (c_Book_Signed : Int) (c_Book_Gatherings : List Gat) (c_Items : List Item) (n : UInt16) : Option Bool :=
  andx (P_l_valid c_Book_Signed c_Book_Gatherings c_Items) fun y19 =>
    if y19 = true then
      chk (-9223372036854775808 ≤ (n.toNat : Int) ∧ (n.toNat : Int) < 9223372036854775808) (
        andx (P_r4_All c_Book_Signed c_Book_Gatherings c_Items) fun (y7, y7_2) =>
          chk (0 < (((GSo y7_2 (encSl encI) (List.map (GSo true encI) y7)).l).length : Int)) (
            el ((GSo y7_2 (encSl encI) (List.map (GSo true encI) y7)).l) (Int.tmod (n.toNat : Int) (((GSo y7_2 (encSl encI) (List.map (GSo true encI) y7)).l).length : Int)) fun a13 =>
            andx (P_c_Range c_Book_Signed c_Book_Gatherings c_Items) fun (y37, y37_2, y37_3) =>
              andx (P_c_Lost c_Book_Signed c_Book_Gatherings c_Items) fun (y42, y42_2, y42_3) =>
                andx (P_c_Loose c_Book_Signed c_Book_Gatherings c_Items) fun (y48, y48_2, y48_3) =>
                  andx (P_r4_Gone c_Book_Signed c_Book_Gatherings a13.l) fun y55 =>
                    andx (P_r4_Free c_Book_Signed c_Book_Gatherings a13.l) fun y59 =>
                      andx (
                        if y37_3 = 0 then
                          if y42_3 = 0 then
                            if y48_3 = 0 then
                              andx (P_r4_Of c_Book_Signed c_Book_Gatherings a13.l) fun (y74, y74_2, y74_3, y74_4, y74_5, y74_6, y74_7) =>
                                andx (P_r1_Inside y74_7 y37 y37_2) fun y77 =>
                                  if y77 = true then
                                    andx (P_l_part y42 y55) fun y82 =>
                                      if y82 = true then
                                        andx (P_l_part y55 y42_2) fun y87 =>
                                          if y87 = true then
                                            andx (P_l_part y48 y59) fun y92 =>
                                              if y92 = true then
                                                andx (P_l_part y59 y48_2) fun y97 =>
                                                  if y97 = true then
                                                    some true
                                                  else
                                                    some false
                                              else
                                                some false
                                          else
                                            some false
                                      else
                                        some false
                                  else
                                    some false
                            else
                              some false
                          else
                            some false
                        else
                          some false) fun x4 =>
                        some x4))
    else
      andx (P_c_Range c_Book_Signed c_Book_Gatherings c_Items) fun (y23, y23_2, y23_3) =>
        andx (
          if ¬ y23_3 = 0 then
            some true
          else
            some false) fun x4 =>
          some x4
end Go.Am
end
section
namespace Go.Am.YthckcbfijdambaaGreat
open Go.Am Go.RowKit
set_option linter.unusedVariables false
set_option linter.unusedSimpArgs false
set_option maxRecDepth 10000 in
theorem tf_l_valid {k : Nat} (hk : 5 ≤ k) {C : List Thing} {c_Book_Signed : Int} {v_c_Book_Gatherings : AV} {c_Book_Gatherings : List Gat} {v_c_Items : AV} {c_Items : List Item} (ht_c_Book_Gatherings : RdT encG v_c_Book_Gatherings c_Book_Gatherings) (ht_c_Items : RdT encIt v_c_Items c_Items) {r : Bool} (h : P_l_valid c_Book_Signed c_Book_Gatherings c_Items = some r) :
  TF (EL k) 15 [.agg [iv (c_Book_Signed), v_c_Book_Gatherings, v_c_Items]] C (RepF (fun (w : Unit) => bv r) (fun (w : Unit) => C)) := by
 unfold P_l_valid at h
 have h_c_Book_Gatherings : Rdl C encG v_c_Book_Gatherings c_Book_Gatherings := RdT.rdl ht_c_Book_Gatherings
 have h_c_Items : Rdl C encIt v_c_Items c_Items := RdT.rdl ht_c_Items;refine TF.enter (fn := Go.Proofs.Tryz.f15) rfl rfl rfl rfl rfl (zU rfl (zQ 3 [_,_,_] R7 (fun b1=>zA R4 (zN (zU rfl (zV R3 (vW 0 [_,_,_] R5 R4) ?_))))));obtain ⟨⟨y8, y8_2, y8_3⟩, hr8, h⟩ := andx_some h;dsimp only at h;obtain ⟨g, hgg, hrg⟩ := Rdl.reif (hs := .row b1 3 [iv (c_Book_Signed), v_c_Book_Gatherings, v_c_Items] :: C) h_c_Book_Gatherings M1 (ReifL.flat encG_tr);obtain ⟨g_2, hgg_2, hrg_2⟩ := Rdl.reif (hs := .row b1 3 [iv (c_Book_Signed), v_c_Book_Gatherings, v_c_Items] :: C) h_c_Items M1 (ReifL.flat encIt_tr);refine TO.call rfl rfl rfl rfl rfl (orcL rfl (by first | decide | omega)) (.cons (.agg (.cons .lit (.cons (hrg _) (.cons (hrg_2 _) .nil)))) .nil) (sem_of (w_r4_Check c_Book_Signed g g_2 _ (by try rw [hgg]; try rw [hgg_2]; exact hr8))) (zM R4 (zX R5 (zX R5 (zX R5 (zA R4 (zA R4 (zA R4 (zN (zU rfl (zM R4 ?_))))))))));obtain ⟨c13, hc13⟩ := zY (y8_3 = 0);refine zV R3 (Val.eql hc13 rfl rfl) (zA R4 (zN (zR ?_)));subst hc13;cases h;exact ⟨rfl, _, rfl, ⟨(), rfl, (pk [98] rfl)⟩⟩
theorem w_l_valid (c_Book_Signed : Int) (c_Book_Gatherings : GS encG) (c_Items : GS encIt) (r : Bool) (h : P_l_valid c_Book_Signed c_Book_Gatherings.l c_Items.l = some r) : Comes (EL 5) 15 [.agg [iv (c_Book_Signed), c_Book_Gatherings.v, c_Items.v]] (bv r) :=
 TF.run (tf_l_valid (Nat.le_refl _) (RdT.gs c_Book_Gatherings) (RdT.gs c_Items) h) fun w => .lit
set_option maxRecDepth 10000 in
theorem tf_l_part {k : Nat} (hk : 1 ≤ k) {C : List Thing} {v_a : AV} {a_ : List Int} {v_b : AV} {b : List Int} (h_a : Rdl C encI v_a a_) (h_b : Rdl C encI v_b b) {r : Bool} (h : P_l_part a_ b = some r) :
  TF (EL k) 22 [v_a, v_b] C (RepF (fun (w : Unit) => bv r) (fun (w : Unit) => C)) := by
 unfold P_l_part at h;refine TF.enter (fn := Go.Proofs.Tryz.f22) rfl rfl rfl rfl rfl (zU rfl (zA R4 (zN ?_)))
 show T _ _ _ _ _ _;apply T.join (r := r) (W := Unit) (fun (j : Unit) (w : Unit) => ⟨[], [], C⟩) h
 ·intro j h;refine zU rfl (zA R4 (zN (zB ?_)))
  show T _ _ _ _ _ _;apply T.iter (r := j) (W := Unit) (fun (j : Int) (w : Unit) => ⟨[], [(0, v_a), (1, v_b), (5, iv (j))], C⟩) (w0 := ()) h
  ·exact (sb .refl)
  rintro i _ a h;unfold P_l_part_L1 at h;refine zH ⟨[], [(0, v_a), (1, v_b), (5, iv (i))], C⟩ rfl (zS (zU rfl (zM R4 (zM R4 (zV R3 (Val.len_l h_a mem0 rfl rfl) ?_)))));obtain ⟨c9, hc9⟩ := zY (i < (a_.length : Int));refine zV R3 (Val.lss hc9 rfl rfl) (zN ?_);obtain ⟨rfl, hc9, h⟩ | ⟨rfl, hc9, h⟩ := zI hc9 h
  ·refine zC rfl (zK (zS (zB (zU rfl (zM R4 (zM R4 (zM R4 ?_)))))));obtain ⟨a15, hia15, ea15, h⟩ := el_some h;refine TO.fact (rdl_at h_a mem0 hia15 ea15) (fun hp=>?_);obtain ⟨pa15, hpa15, hva15⟩ := hp;refine zV R3 (hva15 ⟨rfl, rfl⟩ rfl rfl) (zV R3 (Val.load_e hpa15 mem0 ⟨_, rfl, rfl⟩ rfl rfl) ?_);obtain ⟨has17, hr17, h⟩ := andx_some h;obtain ⟨g, hgg, hrg⟩ := Rdl.reif (hs := C) h_b mem0 (ReifL.flat encI_tr);refine TO.call rfl rfl rfl rfl rfl (orcL rfl (by first | decide | omega)) (.cons (hrg _) (.cons .lit .nil)) (sem_of (w_r1_Has g a15 _ (by try rw [hgg]; exact hr17))) (zV R3 (Val.not rfl) (zN ?_));obtain ⟨rfl, h⟩ | ⟨rfl, h⟩ := zZ h
   ·refine zD rfl (zK (zT rfl (zM R4 ?_)));obtain ⟨hk11, h⟩ := chk_some h;refine zV R3 (Val.add rfl rfl hk11) (zA R4 (zN ?_));cases h;exact ⟨rfl, (), (sb .refl)⟩
   refine zC rfl (zU rfl (zA R4 (zN (zR ?_))));cases h;exact ⟨ret_ne, ⟨ret_ne, ⟨rfl, _, rfl, ⟨(), rfl, .refl⟩⟩⟩⟩
  refine zD rfl (zE ?_);cases h;exact ⟨ex_ne, ⟨rfl, (), (sb .refl)⟩⟩
 ·rintro _ _ h;refine zH ⟨[], [], C⟩ rfl (zU rfl (zA R4 (zN (zR ?_))));cases h;exact ⟨rfl, _, rfl, ⟨(), rfl, .refl⟩⟩
set_option maxRecDepth 10000 in
theorem tf_law_CopyTrue {k : Nat} (hk : 6 ≤ k) {C : List Thing} {c_Book_Signed : Int} {v_c_Book_Gatherings : AV} {c_Book_Gatherings : List Gat} {v_c_Items : AV} {c_Items : List Item} {n : UInt16} (ht_c_Book_Gatherings : RdT encG v_c_Book_Gatherings c_Book_Gatherings) (ht_c_Items : RdT encIt v_c_Items c_Items) {r : Bool} (h : P_law_CopyTrue c_Book_Signed c_Book_Gatherings c_Items n = some r) :
  TF (EL k) 4 [.agg [iv (c_Book_Signed), v_c_Book_Gatherings, v_c_Items], ivk .u16 ((n.toNat : Int))] C (RepF (fun (w : Unit) => bv r) (fun (w : Unit) => C)) := by
 unfold P_law_CopyTrue at h
 have h_c_Book_Gatherings : Rdl C encG v_c_Book_Gatherings c_Book_Gatherings := RdT.rdl ht_c_Book_Gatherings
 have h_c_Items : Rdl C encIt v_c_Items c_Items := RdT.rdl ht_c_Items;refine TF.enter (fn := Go.Proofs.Tryz.f4) rfl rfl rfl rfl rfl (zU rfl (zQ 3 [_,_,_] R7 (fun b2=>zA R4 (zN (zS (zU rfl (zV R3 (vW 0 [_,_,_] R5 R4) ?_)))))));obtain ⟨y19, hr19, h⟩ := andx_some h;obtain ⟨g, hgg, hrg⟩ := Rdl.reif (hs := .row b2 3 [iv (c_Book_Signed), v_c_Book_Gatherings, v_c_Items] :: C) h_c_Book_Gatherings M1 (ReifL.flat encG_tr);obtain ⟨g_2, hgg_2, hrg_2⟩ := Rdl.reif (hs := .row b2 3 [iv (c_Book_Signed), v_c_Book_Gatherings, v_c_Items] :: C) h_c_Items M1 (ReifL.flat encIt_tr);refine TO.call rfl rfl rfl rfl rfl (orcL rfl (by first | decide | omega)) (.cons (.agg (.cons .lit (.cons (hrg _) (.cons (hrg_2 _) .nil)))) .nil) (sem_of (w_l_valid c_Book_Signed g g_2 _ (by try rw [hgg]; try rw [hgg_2]; exact hr19))) (zV R3 (Val.not rfl) (zN ?_));obtain ⟨rfl, h⟩ | ⟨rfl, h⟩ := zZ h
 ·refine zD rfl (zK (zU rfl (zV R3 (vW 0 [_,_,_] R5 R4) (zM R4 ?_))));obtain ⟨hk33, h⟩ := chk_some h;refine zV R3 (Val.conv (cv_ty37_3 hk33) rfl) (TO.callIn rfl rfl rfl rfl rfl rfl (orcN rfl) (TF.enter (fn := Go.Proofs.Tryz.f17) rfl rfl rfl rfl rfl (zU rfl (zQ 3 [_,_,_] R7 (fun b2_2=>zA R4 (zN (zU rfl (zV R3 (vW 0 [_,_,_] R5 R4) ?_))))))));obtain ⟨⟨y7, y7_2⟩, hr7, h⟩ := andx_some h;dsimp only at h;obtain ⟨g_3, hgg_3, hrg_3⟩ := Rdl.reif (hs := .row b2_2 3 [iv (c_Book_Signed), v_c_Book_Gatherings, v_c_Items] :: .row b2 3 [iv (c_Book_Signed), v_c_Book_Gatherings, v_c_Items] :: C) h_c_Book_Gatherings M2 (ReifL.flat encG_tr);obtain ⟨g_4, hgg_4, hrg_4⟩ := Rdl.reif (hs := .row b2_2 3 [iv (c_Book_Signed), v_c_Book_Gatherings, v_c_Items] :: .row b2 3 [iv (c_Book_Signed), v_c_Book_Gatherings, v_c_Items] :: C) h_c_Items M2 (ReifL.flat encIt_tr);refine TO.call rfl rfl rfl rfl rfl (orcL rfl (by first | decide | omega)) (.cons (.agg (.cons .lit (.cons (hrg_3 _) (.cons (hrg_4 _) .nil)))) .nil) (sem_of (w_r4_All c_Book_Signed g_3 g_4 _ (by try rw [hgg_3]; try rw [hgg_4]; exact hr7))) (zA R4 (zN (zU rfl (zM R4 (zM R4 (zM R4 (zV R3 (Val.len_gs rfl rfl) ?_)))))));obtain ⟨hk12, h⟩ := chk_some h;refine zV R3 (Val.rem rfl rfl hk12) ?_;obtain ⟨a13, hia13, ea13, h⟩ := el_some h;refine TO.fact (rdl_at (Rdl.gs (C := C) (GSo y7_2 (encSl encI) (List.map (GSo true encI) y7))) M2 hia13 ea13) (fun hp=>?_);obtain ⟨pa13, hpa13, hva13⟩ := hp;refine zV R3 (hva13 ⟨rfl, rfl⟩ rfl rfl) (zV R3 (Val.load_e hpa13 M2 ⟨_, rfl, rfl⟩ rfl rfl) (zA R4 (zN (zR ?_))));refine ⟨rfl, _, rfl, ?_⟩;refine zA R4 (zN (zU rfl (zV R3 (vW 1 [_,_,_] R5 R4) ?_)));obtain ⟨⟨y37, y37_2, y37_3⟩, hr37, h⟩ := andx_some h;dsimp only at h;obtain ⟨g_5, hgg_5, hrg_5⟩ := Rdl.reif (hs := .row b2_2 3 [iv (c_Book_Signed), v_c_Book_Gatherings, v_c_Items] :: .row b2 3 [iv (c_Book_Signed), v_c_Book_Gatherings, v_c_Items] :: C) h_c_Book_Gatherings M2 (ReifL.flat encG_tr);obtain ⟨g_6, hgg_6, hrg_6⟩ := Rdl.reif (hs := .row b2_2 3 [iv (c_Book_Signed), v_c_Book_Gatherings, v_c_Items] :: .row b2 3 [iv (c_Book_Signed), v_c_Book_Gatherings, v_c_Items] :: C) h_c_Items M2 (ReifL.flat encIt_tr);refine TO.call rfl rfl rfl rfl rfl (orcL rfl (by first | decide | omega)) (.cons (.agg (.cons .lit (.cons (hrg_5 _) (.cons (hrg_6 _) .nil)))) .nil) (sem_of (w_c_Range c_Book_Signed g_5 g_6 _ (by try rw [hgg_5]; try rw [hgg_6]; exact hr37))) (zM R4 (zX R5 (zX R5 (zJ 2 [_,_] R7 (fun b8=>TO.eff0 rfl rfl (Eff.store_row (p := 0) (cv := [_, _]) (cells' := [_, _]) rfl rfl rfl rfl rfl rfl rfl rfl (by first | rfl | (simp [GS.one]; done)) (by decide) rfl) ?_)))));rintro _ rfl;refine zG (_::_::_::C) rfl (zA R4 (zN (zU rfl (zV R3 (vW 2 [_,_,_] R5 R4) ?_))));obtain ⟨⟨y42, y42_2, y42_3⟩, hr42, h⟩ := andx_some h;dsimp only at h;obtain ⟨g_7, hgg_7, hrg_7⟩ := Rdl.reif (hs := .row b8 2 [iv (y37), iv (y37_2)] :: .row b2_2 3 [iv (c_Book_Signed), v_c_Book_Gatherings, v_c_Items] :: .row b2 3 [iv (c_Book_Signed), v_c_Book_Gatherings, v_c_Items] :: C) h_c_Book_Gatherings M3 (ReifL.flat encG_tr)
  obtain ⟨g_8, hgg_8, hrg_8⟩ := Rdl.reif (hs := .row b8 2 [iv (y37), iv (y37_2)] :: .row b2_2 3 [iv (c_Book_Signed), v_c_Book_Gatherings, v_c_Items] :: .row b2 3 [iv (c_Book_Signed), v_c_Book_Gatherings, v_c_Items] :: C) h_c_Items M3 (ReifL.flat encIt_tr);refine TO.call rfl rfl rfl rfl rfl (orcL rfl (by first | decide | omega)) (.cons (.agg (.cons .lit (.cons (hrg_7 _) (.cons (hrg_8 _) .nil)))) .nil) (sem_of (w_c_Lost c_Book_Signed g_7 g_8 _ (by try rw [hgg_7]; try rw [hgg_8]; exact hr42))) (zM R4 (zX R5 (zX R5 (zX R5 (zA R4 (zA R4 (zA R4 (zN (zU rfl (zV R3 (vW 2 [_,_,_] R5 R4) ?_))))))))));obtain ⟨⟨y48, y48_2, y48_3⟩, hr48, h⟩ := andx_some h;dsimp only at h;obtain ⟨g_9, hgg_9, hrg_9⟩ := Rdl.reif (hs := .row b8 2 [iv (y37), iv (y37_2)] :: .row b2_2 3 [iv (c_Book_Signed), v_c_Book_Gatherings, v_c_Items] :: .row b2 3 [iv (c_Book_Signed), v_c_Book_Gatherings, v_c_Items] :: C) h_c_Book_Gatherings M3 (ReifL.flat encG_tr);obtain ⟨g_10, hgg_10, hrg_10⟩ := Rdl.reif (hs := .row b8 2 [iv (y37), iv (y37_2)] :: .row b2_2 3 [iv (c_Book_Signed), v_c_Book_Gatherings, v_c_Items] :: .row b2 3 [iv (c_Book_Signed), v_c_Book_Gatherings, v_c_Items] :: C) h_c_Items M3 (ReifL.flat encIt_tr);refine TO.call rfl rfl rfl rfl rfl (orcL rfl (by first | decide | omega)) (.cons (.agg (.cons .lit (.cons (hrg_9 _) (.cons (hrg_10 _) .nil)))) .nil) (sem_of (w_c_Loose c_Book_Signed g_9 g_10 _ (by try rw [hgg_9]; try rw [hgg_10]; exact hr48))) (zM R4 (zX R5 (zX R5 (zX R5 (zA R4 (zA R4 (zA R4 (zN (zS (T.drawE (l1 := [0, 1, 2, 4, 5, 6]) (l2 := [3, 7, 8, 9]) (by kernel_rfl) (by kernel_rfl) (yL R4 (Val.faddr_ptr (fo := 0) rfl rfl rfl) (yR R4 (vW 2 [_,_] R5 R4) (yL R4 (Val.move rfl) (yL R4 (Val.faddr_ptr (fo := 0) rfl rfl rfl) (yR R4 (vW 2 [_,_] R5 R4) (yL R4 (Val.move rfl) (TD1.over (fun v => sameC_refl v) (all_cons (⟨_, rfl, (vW 2 [_,_] R5 R4)⟩) (all_cons (⟨_, rfl, (vW 2 [_,_] R5 R4)⟩) all_nil)) ?_)))))))))))))))));obtain ⟨y55, hr55, h⟩ := andx_some h;refine TD2.heavy (fun v => sameC_refl v) rfl (by decide) rfl rfl (OpS.callV rfl rfl rfl rfl (orcN rfl) (RepF.conv (tf_r4_Gone (by first | decide | omega) (Rdl.mono h_c_Book_Gatherings M3) (Rdl.mono (Rdl.gs (C := C) a13) M3) hr55))) ?_;rintro w55 _ ⟨w55, rfl, rfl⟩;refine ⟨(all_cons (.inr ⟨_, rfl, (vW 3 [_,_] R5 R4)⟩) (all_cons (.inl (by kernel_rfl)) all_nil)), all_nil, ?_⟩;refine yG (_::_::_::_::C) rfl ?_;obtain ⟨y59, hr59, h⟩ := andx_some h;refine TD2.heavy (fun v => sameC_refl v) rfl (by decide) rfl rfl (OpS.callV rfl rfl rfl rfl (orcN rfl) (RepF.conv (tf_r4_Free (by first | decide | omega) (Rdl.mono h_c_Book_Gatherings M4) (Rdl.mono (Rdl.gs (C := C) a13) M4) hr59))) ?_;rintro w59 _ ⟨w59, rfl, rfl⟩;refine ⟨(all_cons (.inl (by kernel_rfl)) (all_cons (.inl (by kernel_rfl)) all_nil)), all_nil, ?_⟩;refine yG (_::_::_::_::_::C) rfl (yM R4 (Val.assign rfl) (yM R4 (Val.assign rfl) (TD2.nil ?_)))
  show T _ _ _ _ _ _;apply T.joinA (r := r) (W := Unit) (fun (j : Bool) (w : Unit) => ⟨[], [(4, bv j)], ownL true w59 encI y59 :: ownL true w55 encI y55 :: .row b8 2 [iv (y37), iv (y37_2)] :: .row b2_2 3 [iv (c_Book_Signed), v_c_Book_Gatherings, v_c_Items] :: .row b2 3 [iv (c_Book_Signed), v_c_Book_Gatherings, v_c_Items] :: C⟩) h
  ·intro j h;refine T.drawE (l1 := [0, 1, 2, 3, 4, 5, 6, 7, 8, 9, 10, 11, 12, 13, 16]) (l2 := [14, 15, 17, 18, 19, 20, 21, 22, 23, 24, 25, 26, 27, 28, 29, 30, 31, 32, 33, 34, 35, 36, 37, 38, 39, 40, 41, 42]) (by kernel_rfl) (by kernel_rfl) (yL R4 (Val.move rfl) ?_);obtain ⟨c61, hc61⟩ := zY (y37_3 = 0);refine yL R4 (Val.eql hc61 rfl rfl) (yL R4 (Val.move rfl) ?_);obtain ⟨rfl, hc61, h⟩ | ⟨rfl, hc61, h⟩ := zI hc61 h
   ·refine yL R4 (Val.move rfl) ?_;obtain ⟨c64, hc64⟩ := zY (y42_3 = 0);refine yL R4 (Val.eql hc64 rfl rfl) (yL R4 (Val.pick rfl rfl rfl) (yL R4 (Val.move rfl) ?_));obtain ⟨rfl, hc64, h⟩ | ⟨rfl, hc64, h⟩ := zI hc64 h
    ·refine yL R4 (Val.move rfl) ?_;obtain ⟨c68, hc68⟩ := zY (y48_3 = 0);refine yL R4 (Val.eql hc68 rfl rfl) (yL R4 (Val.pick rfl rfl rfl) (yL R4 (Val.move rfl) ?_));obtain ⟨rfl, hc68, h⟩ | ⟨rfl, hc68, h⟩ := zI hc68 h
     ·refine yL R4 (Val.faddr_ptr (fo := 0) rfl rfl rfl) (yR R4 (vW 4 [_,_] R5 R4) (yL R4 (Val.move rfl) (yR R4 (vW 2 [_,_] R5 R4) (TD1.over (fun v => sameC_refl v) (all_cons (⟨_, rfl, (vW 2 [_,_] R5 R4)⟩) (all_cons (⟨_, rfl, (vW 4 [_,_] R5 R4)⟩) all_nil)) ?_))));obtain ⟨⟨y74, y74_2, y74_3, y74_4, y74_5, y74_6, y74_7⟩, hr74, h⟩ := andx_some h;dsimp only at h;refine TD2.heavy (fun v => sameC_refl v) rfl (by decide) rfl rfl (OpS.callV rfl rfl rfl rfl (orcN rfl) (RepF.conv (tf_r4_Of (by first | decide | omega) (Rdl.mono h_c_Book_Gatherings M5) (Rdl.mono (Rdl.gs (C := C) a13) M5) hr74))) ?_;rintro _ _ ⟨⟨w74, w74_2, w74_3, w74_4, w74_5⟩, rfl, rfl⟩;refine ⟨(all_cons (.inr ⟨_, rfl, (vW 7 [_,_] R5 R4)⟩) (all_cons (.inl (by kernel_rfl)) all_nil)), all_nil, ?_⟩;refine yG (_::_::_::_::_::_::_::_::_::_::C) rfl (yM R4 (Val.field (k := 0) rfl rfl rfl rfl rfl) ?_);obtain ⟨y77, hr77, h⟩ := andx_some h;refine TD2.heavy (fun v => sameC_refl v) rfl (by decide) rfl rfl (OpS.callV rfl rfl rfl rfl (orcN rfl) (RepF.conv (tf_r1_Inside (by first | decide | omega) hr77))) ?_;rintro _ _ ⟨_, rfl, rfl⟩;refine ⟨(all_cons (.inl (by kernel_rfl)) (all_cons (.inl (by kernel_rfl)) all_nil)), all_nil, ?_⟩;refine yG (_::_::_::_::_::_::_::_::_::_::C) rfl (yM R4 (Val.pick rfl rfl rfl) (yM R4 (Val.move rfl) ?_));obtain ⟨rfl, h⟩ | ⟨rfl, h⟩ := zZ h
      ·refine yM R4 (Val.move rfl) (yM R4 (Val.move rfl) ?_);obtain ⟨y82, hr82, h⟩ := andx_some h;refine TD2.heavy (fun v => sameC_refl v) rfl (by decide) rfl rfl (OpS.callV rfl rfl rfl rfl (orcN rfl) (RepF.conv (tf_l_part (by first | decide | omega) (Rdl.mono (Rdl.gs (C := C) (GSo true encI y42)) (memS (memS M8))) (Rdl.mono (Rdl.own (C := ownL false w74 encI y74 :: ownL true w74_2 encI y74_2 :: ownL true w74_3 encI y74_4 :: ownL true w74_4 encI y74_5 :: ownL true w74_5 encI y74_6 :: ownL true w59 encI y59 :: ownL true w55 encI y55 :: .row b8 2 [iv (y37), iv (y37_2)] :: .row b2_2 3 [iv (c_Book_Signed), v_c_Book_Gatherings, v_c_Items] :: .row b2 3 [iv (c_Book_Signed), v_c_Book_Gatherings, v_c_Items] :: C) (p := 6) rfl) mem0) hr82))) ?_;rintro _ _ ⟨_, rfl, rfl⟩;refine ⟨(all_cons (.inl (by kernel_rfl)) (all_cons (.inl (by kernel_rfl)) all_nil)), all_nil, ?_⟩;refine yG (_::_::_::_::_::_::_::_::_::_::C) rfl (yM R4 (Val.pick rfl rfl rfl) (yM R4 (Val.move rfl) ?_));obtain ⟨rfl, h⟩ | ⟨rfl, h⟩ := zZ h
       ·refine yM R4 (Val.move rfl) (yM R4 (Val.move rfl) ?_);obtain ⟨y87, hr87, h⟩ := andx_some h;refine TD2.heavy (fun v => sameC_refl v) rfl (by decide) rfl rfl (OpS.callV rfl rfl rfl rfl (orcN rfl) (RepF.conv (tf_l_part (by first | decide | omega) (Rdl.mono (Rdl.own (C := ownL false w74 encI y74 :: ownL true w74_2 encI y74_2 :: ownL true w74_3 encI y74_4 :: ownL true w74_4 encI y74_5 :: ownL true w74_5 encI y74_6 :: ownL true w59 encI y59 :: ownL true w55 encI y55 :: .row b8 2 [iv (y37), iv (y37_2)] :: .row b2_2 3 [iv (c_Book_Signed), v_c_Book_Gatherings, v_c_Items] :: .row b2 3 [iv (c_Book_Signed), v_c_Book_Gatherings, v_c_Items] :: C) (p := 6) rfl) mem0) (Rdl.mono (Rdl.gs (C := C) (GSo true encI y42_2)) (memS (memS M8))) hr87))) ?_;rintro _ _ ⟨_, rfl, rfl⟩;refine ⟨(all_cons (.inl (by kernel_rfl)) (all_cons (.inl (by kernel_rfl)) all_nil)), all_nil, ?_⟩;refine yG (_::_::_::_::_::_::_::_::_::_::C) rfl (yM R4 (Val.pick rfl rfl rfl) (yM R4 (Val.move rfl) ?_));obtain ⟨rfl, h⟩ | ⟨rfl, h⟩ := zZ h
        ·refine yM R4 (Val.move rfl) (yM R4 (Val.move rfl) ?_);obtain ⟨y92, hr92, h⟩ := andx_some h;refine TD2.heavy (fun v => sameC_refl v) rfl (by decide) rfl rfl (OpS.callV rfl rfl rfl rfl (orcN rfl) (RepF.conv (tf_l_part (by first | decide | omega) (Rdl.mono (Rdl.gs (C := C) (GSo true encI y48)) (memS (memS M8))) (Rdl.mono (Rdl.own (C := ownL false w74 encI y74 :: ownL true w74_2 encI y74_2 :: ownL true w74_3 encI y74_4 :: ownL true w74_4 encI y74_5 :: ownL true w74_5 encI y74_6 :: ownL true w59 encI y59 :: ownL true w55 encI y55 :: .row b8 2 [iv (y37), iv (y37_2)] :: .row b2_2 3 [iv (c_Book_Signed), v_c_Book_Gatherings, v_c_Items] :: .row b2 3 [iv (c_Book_Signed), v_c_Book_Gatherings, v_c_Items] :: C) (p := 5) rfl) mem0) hr92))) ?_;rintro _ _ ⟨_, rfl, rfl⟩;refine ⟨(all_cons (.inl (by kernel_rfl)) (all_cons (.inl (by kernel_rfl)) all_nil)), all_nil, ?_⟩;refine yG (_::_::_::_::_::_::_::_::_::_::C) rfl (yM R4 (Val.pick rfl rfl rfl) (yM R4 (Val.move rfl) ?_));obtain ⟨rfl, h⟩ | ⟨rfl, h⟩ := zZ h
         ·refine yM R4 (Val.move rfl) (yM R4 (Val.move rfl) ?_);obtain ⟨y97, hr97, h⟩ := andx_some h;refine TD2.heavy (fun v => sameC_refl v) rfl (by decide) rfl rfl (OpS.callV rfl rfl rfl rfl (orcN rfl) (RepF.conv (tf_l_part (by first | decide | omega) (Rdl.mono (Rdl.own (C := ownL false w74 encI y74 :: ownL true w74_2 encI y74_2 :: ownL true w74_3 encI y74_4 :: ownL true w74_4 encI y74_5 :: ownL true w74_5 encI y74_6 :: ownL true w59 encI y59 :: ownL true w55 encI y55 :: .row b8 2 [iv (y37), iv (y37_2)] :: .row b2_2 3 [iv (c_Book_Signed), v_c_Book_Gatherings, v_c_Items] :: .row b2 3 [iv (c_Book_Signed), v_c_Book_Gatherings, v_c_Items] :: C) (p := 5) rfl) mem0) (Rdl.mono (Rdl.gs (C := C) (GSo true encI y48_2)) (memS (memS M8))) hr97))) ?_;rintro _ _ ⟨_, rfl, rfl⟩;refine ⟨(all_cons (.inl (by kernel_rfl)) (all_cons (.inl (by kernel_rfl)) all_nil)), all_nil, ?_⟩;refine yG (_::_::_::_::_::_::_::_::_::_::C) rfl (yM R4 (Val.pick rfl rfl rfl) (yM R4 (Val.move rfl) ?_));obtain ⟨rfl, h⟩ | ⟨rfl, h⟩ := zZ h
          ·refine TD2.heavy (fun v => sameC_refl v) rfl (by decide) rfl rfl (OpS.call rfl rfl rfl orcA .nil rfl) ?_;rintro _ _ ⟨rfl, rfl⟩;refine ⟨(all_cons (.inl (by kernel_rfl)) (all_cons (.inl (by kernel_rfl)) all_nil)), all_nil, ?_⟩;refine yM R4 (Val.pick rfl rfl rfl) (yM R4 (Val.assign rfl) (TD2.nil ?_));cases h;exact ⟨rfl, (), (sb (pk [5,5,5,5,5,98,98,98,98,98] rfl))⟩
          refine TD2.off rfl rfl rfl (yM R4 (Val.pick rfl rfl rfl) (yM R4 (Val.assign rfl) (TD2.nil ?_)));cases h;exact ⟨rfl, (), (sb (pk [5,5,5,5,5,98,98,98,98,98] rfl))⟩
         refine TD2.off rfl rfl rfl (TD2.off rfl rfl rfl (TD2.off rfl rfl rfl (yM R4 (Val.pick rfl rfl rfl) (yM R4 (Val.move rfl) (TD2.off rfl rfl rfl (yM R4 (Val.pick rfl rfl rfl) (yM R4 (Val.assign rfl) (TD2.nil ?_))))))));cases h;exact ⟨rfl, (), (sb (pk [5,5,5,5,5,98,98,98,98,98] rfl))⟩
        refine TD2.off rfl rfl rfl (TD2.off rfl rfl rfl (TD2.off rfl rfl rfl (yM R4 (Val.pick rfl rfl rfl) (yM R4 (Val.move rfl) (TD2.off rfl rfl rfl (TD2.off rfl rfl rfl (TD2.off rfl rfl rfl (yM R4 (Val.pick rfl rfl rfl) (yM R4 (Val.move rfl) (TD2.off rfl rfl rfl (yM R4 (Val.pick rfl rfl rfl) (yM R4 (Val.assign rfl) (TD2.nil ?_)))))))))))));cases h;exact ⟨rfl, (), (sb (pk [5,5,5,5,5,98,98,98,98,98] rfl))⟩
       refine TD2.off rfl rfl rfl (TD2.off rfl rfl rfl (TD2.off rfl rfl rfl (yM R4 (Val.pick rfl rfl rfl) (yM R4 (Val.move rfl) (TD2.off rfl rfl rfl (TD2.off rfl rfl rfl (TD2.off rfl rfl rfl (yM R4 (Val.pick rfl rfl rfl) (yM R4 (Val.move rfl) (TD2.off rfl rfl rfl (TD2.off rfl rfl rfl (TD2.off rfl rfl rfl (yM R4 (Val.pick rfl rfl rfl) (yM R4 (Val.move rfl) (TD2.off rfl rfl rfl (yM R4 (Val.pick rfl rfl rfl) (yM R4 (Val.assign rfl) (TD2.nil ?_))))))))))))))))));cases h;exact ⟨rfl, (), (sb (pk [5,5,5,5,5,98,98,98,98,98] rfl))⟩
      refine TD2.off rfl rfl rfl (TD2.off rfl rfl rfl (TD2.off rfl rfl rfl (yM R4 (Val.pick rfl rfl rfl) (yM R4 (Val.move rfl) (TD2.off rfl rfl rfl (TD2.off rfl rfl rfl (TD2.off rfl rfl rfl (yM R4 (Val.pick rfl rfl rfl) (yM R4 (Val.move rfl) (TD2.off rfl rfl rfl (TD2.off rfl rfl rfl (TD2.off rfl rfl rfl (yM R4 (Val.pick rfl rfl rfl) (yM R4 (Val.move rfl) (TD2.off rfl rfl rfl (TD2.off rfl rfl rfl (TD2.off rfl rfl rfl (yM R4 (Val.pick rfl rfl rfl) (yM R4 (Val.move rfl) (TD2.off rfl rfl rfl (yM R4 (Val.pick rfl rfl rfl) (yM R4 (Val.assign rfl) (TD2.nil ?_)))))))))))))))))))))));cases h;exact ⟨rfl, (), (sb (pk [5,5,5,5,5,98,98,98,98,98] rfl))⟩
     refine TD1.off rfl rfl rfl (TD1.off rfl rfl rfl (TD1.off rfl rfl rfl (TD1.off rfl rfl rfl (TD1.over (fun v => sameC_refl v) all_nil (TD2.off rfl rfl rfl (TD2.off rfl rfl rfl (TD2.off rfl rfl rfl (yM R4 (Val.pick rfl rfl rfl) (yM R4 (Val.move rfl) (TD2.off rfl rfl rfl (TD2.off rfl rfl rfl (TD2.off rfl rfl rfl (yM R4 (Val.pick rfl rfl rfl) (yM R4 (Val.move rfl) (TD2.off rfl rfl rfl (TD2.off rfl rfl rfl (TD2.off rfl rfl rfl (yM R4 (Val.pick rfl rfl rfl) (yM R4 (Val.move rfl) (TD2.off rfl rfl rfl (TD2.off rfl rfl rfl (TD2.off rfl rfl rfl (yM R4 (Val.pick rfl rfl rfl) (yM R4 (Val.move rfl) (TD2.off rfl rfl rfl (TD2.off rfl rfl rfl (TD2.off rfl rfl rfl (yM R4 (Val.pick rfl rfl rfl) (yM R4 (Val.move rfl) (TD2.off rfl rfl rfl (yM R4 (Val.pick rfl rfl rfl) (yM R4 (Val.assign rfl) (TD2.nil ?_)))))))))))))))))))))))))))))))));cases h;exact ⟨rfl, (), (sb .refl)⟩
    refine TD1.off rfl rfl rfl (TD1.off rfl rfl rfl (yL R4 (Val.pick rfl rfl rfl) (yL R4 (Val.move rfl) (TD1.off rfl rfl rfl (TD1.off rfl rfl rfl (TD1.off rfl rfl rfl (TD1.off rfl rfl rfl (TD1.over (fun v => sameC_refl v) all_nil (TD2.off rfl rfl rfl (TD2.off rfl rfl rfl (TD2.off rfl rfl rfl (yM R4 (Val.pick rfl rfl rfl) (yM R4 (Val.move rfl) (TD2.off rfl rfl rfl (TD2.off rfl rfl rfl (TD2.off rfl rfl rfl (yM R4 (Val.pick rfl rfl rfl) (yM R4 (Val.move rfl) (TD2.off rfl rfl rfl (TD2.off rfl rfl rfl (TD2.off rfl rfl rfl (yM R4 (Val.pick rfl rfl rfl) (yM R4 (Val.move rfl) (TD2.off rfl rfl rfl (TD2.off rfl rfl rfl (TD2.off rfl rfl rfl (yM R4 (Val.pick rfl rfl rfl) (yM R4 (Val.move rfl) (TD2.off rfl rfl rfl (TD2.off rfl rfl rfl (TD2.off rfl rfl rfl (yM R4 (Val.pick rfl rfl rfl) (yM R4 (Val.move rfl) (TD2.off rfl rfl rfl (yM R4 (Val.pick rfl rfl rfl) (yM R4 (Val.assign rfl) (TD2.nil ?_)))))))))))))))))))))))))))))))))))));cases h;exact ⟨rfl, (), (sb .refl)⟩
   refine TD1.off rfl rfl rfl (TD1.off rfl rfl rfl (yL R4 (Val.pick rfl rfl rfl) (yL R4 (Val.move rfl) (TD1.off rfl rfl rfl (TD1.off rfl rfl rfl (yL R4 (Val.pick rfl rfl rfl) (yL R4 (Val.move rfl) (TD1.off rfl rfl rfl (TD1.off rfl rfl rfl (TD1.off rfl rfl rfl (TD1.off rfl rfl rfl (TD1.over (fun v => sameC_refl v) all_nil (TD2.off rfl rfl rfl (TD2.off rfl rfl rfl (TD2.off rfl rfl rfl (yM R4 (Val.pick rfl rfl rfl) (yM R4 (Val.move rfl) (TD2.off rfl rfl rfl (TD2.off rfl rfl rfl (TD2.off rfl rfl rfl (yM R4 (Val.pick rfl rfl rfl) (yM R4 (Val.move rfl) (TD2.off rfl rfl rfl (TD2.off rfl rfl rfl (TD2.off rfl rfl rfl (yM R4 (Val.pick rfl rfl rfl) (yM R4 (Val.move rfl) (TD2.off rfl rfl rfl (TD2.off rfl rfl rfl (TD2.off rfl rfl rfl (yM R4 (Val.pick rfl rfl rfl) (yM R4 (Val.move rfl) (TD2.off rfl rfl rfl (TD2.off rfl rfl rfl (TD2.off rfl rfl rfl (yM R4 (Val.pick rfl rfl rfl) (yM R4 (Val.move rfl) (TD2.off rfl rfl rfl (yM R4 (Val.pick rfl rfl rfl) ?_)))))))))))))))))))))))))))))))))))))));refine yM R4 (Val.assign rfl) (TD2.nil ?_);cases h;exact ⟨rfl, (), (sb .refl)⟩
  ·rintro x4 _ h;refine zH ⟨[], [(4, bv x4)], ownL true w59 encI y59 :: ownL true w55 encI y55 :: .row b8 2 [iv (y37), iv (y37_2)] :: .row b2_2 3 [iv (c_Book_Signed), v_c_Book_Gatherings, v_c_Items] :: .row b2 3 [iv (c_Book_Signed), v_c_Book_Gatherings, v_c_Items] :: C⟩ rfl (zR ?_);cases h;exact ⟨rfl, _, rfl, ⟨(), rfl, (pk [98,98,98,98,98] rfl)⟩⟩
 refine zC rfl (zU rfl (zV R3 (vW 0 [_,_,_] R5 R4) ?_));obtain ⟨⟨y23, y23_2, y23_3⟩, hr23, h⟩ := andx_some h;dsimp only at h;obtain ⟨g_3, hgg_3, hrg_3⟩ := Rdl.reif (hs := .row b2 3 [iv (c_Book_Signed), v_c_Book_Gatherings, v_c_Items] :: C) h_c_Book_Gatherings M1 (ReifL.flat encG_tr);obtain ⟨g_4, hgg_4, hrg_4⟩ := Rdl.reif (hs := .row b2 3 [iv (c_Book_Signed), v_c_Book_Gatherings, v_c_Items] :: C) h_c_Items M1 (ReifL.flat encIt_tr);refine TO.call rfl rfl rfl rfl rfl (orcL rfl (by first | decide | omega)) (.cons (.agg (.cons .lit (.cons (hrg_3 _) (.cons (hrg_4 _) .nil)))) .nil) (sem_of (w_c_Range c_Book_Signed g_3 g_4 _ (by try rw [hgg_3]; try rw [hgg_4]; exact hr23))) (zM R4 (zX R5 (zX R5 (zJ 2 [_,_] R7 (fun b5=>TO.eff0 rfl rfl (Eff.store_row (p := 0) (cv := [_, _]) (cells' := [_, _]) rfl rfl rfl rfl rfl rfl rfl rfl (by first | rfl | (simp [GS.one]; done)) (by decide) rfl) ?_)))));rintro _ rfl;refine zG (_::_::C) rfl (zA R4 (zN ?_))
 show T _ _ _ _ _ _;apply T.joinA (r := r) (W := Unit) (fun (j : Bool) (w : Unit) => ⟨[], [(4, bv j)], .row b5 2 [iv (y23), iv (y23_2)] :: .row b2 3 [iv (c_Book_Signed), v_c_Book_Gatherings, v_c_Items] :: C⟩) h
 ·intro j h;refine zT rfl (zM R4 ?_);obtain ⟨c27, hc27⟩ := zY (¬ y23_3 = 0);refine zV R3 (Val.neq hc27 rfl rfl) (zM R4 ?_);obtain ⟨rfl, hc27, h⟩ | ⟨rfl, hc27, h⟩ := zI hc27 h
  ·refine TO.call rfl rfl rfl rfl rfl orcA .nil rfl (zP R6 (zA R4 (zN ?_)));cases h;exact ⟨rfl, (), (sb .refl)⟩
  refine zO R3 (zP R6 (zA R4 (zN ?_)));cases h;exact ⟨rfl, (), (sb .refl)⟩
 ·rintro x4 _ h;refine zH ⟨[], [(4, bv x4)], .row b5 2 [iv (y23), iv (y23_2)] :: .row b2 3 [iv (c_Book_Signed), v_c_Book_Gatherings, v_c_Items] :: C⟩ rfl (zR ?_);cases h;exact ⟨rfl, _, rfl, ⟨(), rfl, (pk [98,98] rfl)⟩⟩
theorem w_law_CopyTrue (c_Book_Signed : Int) (c_Book_Gatherings : GS encG) (c_Items : GS encIt) (n : UInt16) (r : Bool) (h : P_law_CopyTrue c_Book_Signed c_Book_Gatherings.l c_Items.l n = some r) : Comes (EL 6) 4 [.agg [iv (c_Book_Signed), c_Book_Gatherings.v, c_Items.v], ivk .u16 ((n.toNat : Int))] (bv r) :=
 TF.run (tf_law_CopyTrue (Nat.le_refl _) (RdT.gs c_Book_Gatherings) (RdT.gs c_Items) h) fun w => .lit
end Go.Am.YthckcbfijdambaaGreat
end
section
namespace Go.Am
open Go.RowKit
def Lifts (P : Program) (t : TypeId) {α : Type} (e : En α) : Prop :=
 ∀ (H : Type) (enc : TypeId × Value → H) (W : World) (base : Nat) (held : Bool) (fuel : Nat) (cs : List Value) (x : DataW H × List MemPlace),
  DataW.trod enc P W base (fun _ => true) held fuel t cs = some x → ∃ a : α, RelL (snapR W 0) (e.f a) cs
theorem Lifts.int {P : Program} {t : TypeId} (ht : P.underlying t = some (.int .i64)) : Lifts P t encI := by
 intro H enc W base held fuel cs x hx;obtain ⟨n, rfl, _, _⟩ := DataW.trod_int ht hx;exact ⟨n, .cons (.lit _) (.nil _)⟩
theorem snap_cell {W : World} {b off : Nat} {v : Value} (h : W.cell? ⟨b, off, none⟩ = some v) : ∃ c, (snapR W 0).imm b = some c ∧ c[off]? = some v := by
 unfold World.cell? at h;split at h
 ·rename_i c _ _ hb
  simp at h;exact ⟨c, by simp only [snapR, snap, Nat.zero_le, if_true]; simp only [] at hb; rw [hb], h⟩
 ·cases h
theorem list_of {α : Type} {p : Nat → α → Prop} : ∀ n : Nat, (∀ i, i < n → ∃ a, p i a) → ∃ l : List α, l.length = n ∧ ∀ i a, l[i]? = some a → p i a := by
 intro n
 induction n with
 | zero => intro _; exact ⟨[], rfl, fun i a h => by simp at h⟩
 | succ n ih =>
  intro h;obtain ⟨l, h1, h2⟩ := ih fun i hi => h i (by omega)
  obtain ⟨a, ha⟩ := h n (by omega);refine ⟨l ++ [a], by simp [h1], fun i b hb => ?_⟩
  by_cases hi : i < l.length
  ·rw [List.getElem?_append_left hi] at hb; exact h2 i b hb
  ·rw [List.getElem?_append_right (by omega)] at hb
   have : i - l.length = 0 := by
    have := (List.getElem?_eq_some_iff.1 hb).1;simp at this; omega
   rw [this] at hb;simp at hb;subst hb
   have : i = n := by omega
   rw [this]; exact ha
theorem Lifts.slice {P : Program} {t e : TypeId} {α : Type} {en : En α} (ht : P.underlying t = some (.slice e)) (hu : P.cellsOf e = en.u) (h0 : 0 < en.u) (h : Lifts P e en) : Lifts P t (encSl en) := by
 intro H enc W base held fuel cs x hx
 rcases DataW.trod_slice ht hx with ⟨rfl, _⟩ | ⟨a, len, cap, elems, rest, n, _, rfl, _, hb, hl, _, hlen, hel, hsp, _⟩
 ·exact ⟨⟨nilS, [], .inl ⟨rfl, rfl, rfl⟩⟩, .cons (.lit _) (.nil _)⟩
 ·rw [hu] at hel hsp;obtain ⟨hrl, hr⟩ := hsp rfl
  by_cases hc : cap = 0
  ·subst hc
   have : len = 0 := by omega
   subst this;exact ⟨⟨.tree en.u 0 [], [], .inr ⟨rfl, by simp⟩⟩, .cons .tree0 (.nil _)⟩
  ·have hcell : ∀ i, i < len → ∃ (a' : α) (ci : List Value), W.cells? base (a.add (i * en.u)) en.u = some ci ∧ RelL (snapR W 0) (en.f a') ci := by
    intro i hi
    have he := hel i hi;rw [List.getElem?_eq_getElem (by omega)] at he;obtain ⟨ci, h1, h2⟩ := Option.bind_eq_some_iff.1 he;obtain ⟨a', h3⟩ := h _ _ _ _ _ _ _ _ h2;exact ⟨a', ci, h1, h3⟩
   have hspot : a.spot = none := by
    have : ∃ ci, W.cells? base (a.add (0 * en.u)) en.u = some ci := by
     by_cases hl0 : 0 < len
     ·obtain ⟨_, ci, h1, _⟩ := hcell 0 hl0;exact ⟨ci, h1⟩
     ·have hz : len = 0 := by omega
      have he := hr 0 (by omega);rw [List.getElem?_eq_getElem (by omega)] at he;obtain ⟨ci, h1, _⟩ := Option.bind_eq_some_iff.1 he;exact ⟨ci, by simpa [hz] using h1⟩
    obtain ⟨ci, h1⟩ := this;obtain ⟨_, h2, h3⟩ := World.cells?_some h1
    have h4 := h3 0 h0;rw [List.getElem?_eq_getElem (by omega)] at h4
    have := World.cell?_spot h4
    simpa [Addr.add] using this
   obtain ⟨b, off, sp⟩ := a;simp only at hspot;subst hspot;obtain ⟨l, hl1, hl2⟩ := list_of (p := fun i a' => ∃ ci : List Value, W.cells? base ((⟨b, off, none⟩ : Addr).add (i * en.u)) en.u = some ci ∧ RelL (snapR W 0) (en.f a') ci) len hcell
   have hfl : (l.flatMap en.f).length = len * en.u := by rw [flat_len, hl1]
   have each : ∀ j, j < len * en.u → ∃ v y c, (l.flatMap en.f)[j]? = some v ∧ (snapR W 0).imm b = some c ∧ c[off + j]? = some y ∧ RelV (snapR W 0) v y := by
    intro j hj
    have hi : j / en.u < l.length := by rw [hl1]; exact Nat.div_lt_of_lt_mul (by rw [Nat.mul_comm]; exact hj)
    have hk : j % en.u < en.u := Nat.mod_lt _ h0
    have hd : j / en.u * en.u + j % en.u = j := by rw [Nat.mul_comm]; exact Nat.div_add_mod j en.u
    obtain ⟨ci, h1, h2⟩ := hl2 _ _ (List.getElem?_eq_getElem hi);obtain ⟨_, h3, h4⟩ := World.cells?_some h1
    have h5 := h4 _ hk;rw [List.getElem?_eq_getElem (by omega)] at h5
    have h6 : ((⟨b, off, none⟩ : Addr).add (j / en.u * en.u)).add (j % en.u) = ⟨b, off + j, none⟩ := by
     simp only [addr_add]
     congr 1
     omega
    rw [h6] at h5;obtain ⟨c, h7, h8⟩ := snap_cell h5
    have hlen' := en.len l[j / en.u]
    have hv := List.getElem?_eq_getElem (l := en.f l[j / en.u]) (i := j % en.u) (by omega);refine ⟨_, _, c, ?_, h7, h8, h2.2 _ _ _ hv (List.getElem?_eq_getElem _)⟩
    have := flat_get (en := en) (List.getElem?_eq_getElem hi) hk;rw [hd] at this;rw [this, hv]
   refine ⟨⟨.tree en.u l.length (l.flatMap en.f), l, .inr ⟨rfl, by rw [hfl, hl1]⟩⟩, .cons ?_ (.nil _)⟩
   show RelV _ (.tree en.u l.length (l.flatMap en.f)) _;rw [hl1]
   by_cases hz : len * en.u = 0
   ·refine .tree (c := #[]) hfl hl (.inl (List.eq_nil_of_length_eq_zero (by omega))) fun i v x hv hx => by simp at hx
   ·obtain ⟨_, _, c, _, hc1, _, _⟩ := each (len * en.u - 1) (by omega);refine .tree (c := c) hfl hl (.inr ⟨hc1, ?_⟩) fun j v y hv hy => ?_
    ·obtain ⟨_, _, c', _, hc2, hc3, _⟩ := each (len * en.u - 1) (by omega);rw [hc1] at hc2;cases hc2
     have := (Array.getElem?_eq_some_iff.1 hc3).1;omega
    ·have hj := (List.getElem?_eq_some_iff.1 hv).1;obtain ⟨v', y', c', e1, e2, e3, e4⟩ := each j (by omega);rw [hc1] at e2;cases e2;rw [hv] at e1;rw [hy] at e3;cases e1;cases e3;exact e4
theorem RelL.glue {r : Ren} {a b : List AV} {cs : List Value} {n : Nat} (h1 : RelL r a (cs.take n)) (h2 : RelL r b (cs.drop n)) : RelL r (a ++ b) cs := by
 have := h1.append h2
 rwa [List.take_append_drop] at this
end Go.Am
end
section
namespace Go.Am
open Go.RowKit
def enPair {α β : Type} (a : En α) (b : En β) : En (α × β) := ⟨a.u + b.u, fun p => a.f p.1 ++ b.f p.2, fun p => by simp [a.len, b.len]⟩
theorem Lifts.map {P : Program} {t : TypeId} {α β : Type} {a : En α} {b : En β} (h : Lifts P t a) (hf : ∀ x, ∃ y, b.f y = a.f x) : Lifts P t b := by
 intro H enc W base held fuel cs x hx;obtain ⟨v, hv⟩ := h _ _ _ _ _ _ _ _ hx;obtain ⟨y, hy⟩ := hf v;exact ⟨y, by rw [hy]; exact hv⟩
theorem Lifts.struct1 {P : Program} {t : TypeId} {f0 : Field} {α : Type} {a : En α} (ht : P.underlying t = some (.struct #[f0])) (o0 : f0.offset = 0) (c0 : P.cellsOf f0.type = a.u) (ct : P.cellsOf t = a.u)
  (l0 : Lifts P f0.type a) : Lifts P t a := by
 intro H enc W base held fuel cs x hx;obtain ⟨xs, n, _, _, hl, hn, h⟩ := DataW.trod_struct ht hx
 have hn1 : xs.length = 1 := hn
 have h0 := h 0 f0 rfl;rw [List.getElem?_eq_getElem (by omega), o0, c0, List.drop_zero, List.take_of_length_le (by omega)] at h0;exact l0 _ _ _ _ _ _ _ _ h0
theorem Lifts.struct2 {P : Program} {t : TypeId} {f0 f1 : Field} {α β : Type} {a : En α} {b : En β} (ht : P.underlying t = some (.struct #[f0, f1])) (o0 : f0.offset = 0) (o1 : f1.offset = a.u)
  (c0 : P.cellsOf f0.type = a.u) (c1 : P.cellsOf f1.type = b.u) (ct : P.cellsOf t = a.u + b.u) (l0 : Lifts P f0.type a) (l1 : Lifts P f1.type b) : Lifts P t (enPair a b) := by
 intro H enc W base held fuel cs x hx;obtain ⟨xs, n, _, _, hl, hn, h⟩ := DataW.trod_struct ht hx
 have hn1 : xs.length = 2 := hn
 have h0 := h 0 f0 rfl
 have h1 := h 1 f1 rfl;rw [List.getElem?_eq_getElem (by omega), o0, c0, List.drop_zero] at h0;rw [List.getElem?_eq_getElem (by omega), o1, c1, List.take_of_length_le (by simp; omega)] at h1;obtain ⟨x0, r0⟩ := l0 _ _ _ _ _ _ _ _ h0;obtain ⟨x1, r1⟩ := l1 _ _ _ _ _ _ _ _ h1;exact ⟨(x0, x1), .glue r0 r1⟩
theorem Lifts.struct3 {P : Program} {t : TypeId} {f0 f1 f2 : Field} {α β γ : Type} {a : En α} {b : En β} {c : En γ} (ht : P.underlying t = some (.struct #[f0, f1, f2])) (o0 : f0.offset = 0) (o1 : f1.offset = a.u) (o2 : f2.offset = a.u + b.u)
  (c0 : P.cellsOf f0.type = a.u) (c1 : P.cellsOf f1.type = b.u) (c2 : P.cellsOf f2.type = c.u) (ct : P.cellsOf t = a.u + (b.u + c.u)) (l0 : Lifts P f0.type a) (l1 : Lifts P f1.type b) (l2 : Lifts P f2.type c) :
  Lifts P t (enPair a (enPair b c)) := by
 intro H enc W base held fuel cs x hx;obtain ⟨xs, n, _, _, hl, hn, h⟩ := DataW.trod_struct ht hx
 have hn1 : xs.length = 3 := hn
 have h0 := h 0 f0 rfl
 have h1 := h 1 f1 rfl
 have h2 := h 2 f2 rfl;rw [List.getElem?_eq_getElem (by omega), o0, c0, List.drop_zero] at h0;rw [List.getElem?_eq_getElem (by omega), o1, c1] at h1;rw [List.getElem?_eq_getElem (by omega), o2, c2, ← List.drop_drop, List.take_of_length_le (by simp; omega)] at h2;obtain ⟨x0, r0⟩ := l0 _ _ _ _ _ _ _ _ h0;obtain ⟨x1, r1⟩ := l1 _ _ _ _ _ _ _ _ h1;obtain ⟨x2, r2⟩ := l2 _ _ _ _ _ _ _ _ h2;exact ⟨(x0, x1, x2), .glue r0 (.glue r1 r2)⟩
theorem Lifts.arg {P : Program} {t : TypeId} {fs : Array Field} {α : Type} {en : En α} (hl : Lifts P t en) (ht : P.underlying t = some (.struct fs)) {W : World} {r : Reach} {b0 : Nat} {v : Value} (hval : Value.okWide P W r b0 t v)
  {H : Type} {enc : TypeId × Value → H} {base : Nat} {held : Bool} {d : DataW H} {ps : List MemPlace} (h : DataW.Trod enc P W base (fun _ => true) held t v d ps) : ∃ a, RelV (snapR W 0) (.agg (en.f a)) v := by
 simp only [Value.okWide, ht] at hval;obtain ⟨cs, rfl, _, _⟩ := hval;obtain ⟨fuel, hf⟩ := h;obtain ⟨a, ha⟩ := hl _ _ _ _ _ _ _ _ hf;exact ⟨a, by simpa [Value.cells] using RelV.agg ha.1 ha.2⟩
end Go.Am
end
section
namespace Go.Am
open Go.RowKit
set_option linter.unusedVariables false
def encU16 : En UInt16 := ⟨1, fun b => [ivk .u16 (b.toNat : Int)], fun _ => rfl⟩
theorem Lifts.u8 {P : Program} {t : TypeId} (ht : P.underlying t = some (.int .u8)) : Lifts P t encU8 := by
 intro H enc W base held fuel cs x hx;obtain ⟨n, rfl, _, hw⟩ := DataW.trod_int ht hx
 have hw : 0 ≤ n ∧ n ≤ 255 := by
  have := Bool.and_eq_true_iff.1 hw;exact ⟨of_decide_eq_true this.1, of_decide_eq_true this.2⟩
 have e : ((UInt8.ofNat n.toNat).toNat : Int) = n := by rw [UInt8.toNat_ofNat']; omega
 refine ⟨UInt8.ofNat n.toNat, .cons ?_ (.nil _)⟩;rw [e];exact .lit _
theorem Lifts.u16 {P : Program} {t : TypeId} (ht : P.underlying t = some (.int .u16)) : Lifts P t encU16 := by
 intro H enc W base held fuel cs x hx;obtain ⟨n, rfl, _, hw⟩ := DataW.trod_int ht hx
 have hw : 0 ≤ n ∧ n ≤ 65535 := by
  have := Bool.and_eq_true_iff.1 hw;exact ⟨of_decide_eq_true this.1, of_decide_eq_true this.2⟩
 have e : ((UInt16.ofNat n.toNat).toNat : Int) = n := by rw [UInt16.toNat_ofNat']; omega
 refine ⟨UInt16.ofNat n.toNat, .cons ?_ (.nil _)⟩;rw [e];exact .lit _
theorem Lifts.argI {P : Program} {t : TypeId} {k : IntKind} {α : Type} {en : En α} (hl : Lifts P t en) (ht : P.underlying t = some (.int k)) {W : World} {r : Reach} {b0 : Nat} {v : Value} (hval : Value.okWide P W r b0 t v)
  {H : Type} {enc : TypeId × Value → H} {base : Nat} {held : Bool} {d : DataW H} {ps : List MemPlace} (h : DataW.Trod enc P W base (fun _ => true) held t v d ps) : ∃ a, ∀ w, (en.f a)[0]? = some w → RelV (snapR W 0) w v := by
 obtain ⟨fuel, hf⟩ := h;obtain ⟨a, ha⟩ := hl _ _ _ _ _ _ _ _ hf;refine ⟨a, fun w hw => ?_⟩;cases v with
 | agg cs => simp [Value.okWide, ht, Cell.okWide, Cell.ok] at hval
 | _ => exact ha.2 0 _ _ hw rfl
end Go.Am
end
section
namespace Go.Am.YthckcbfijdambaaGreat
open Go.Am Go.RowKit Go.Proofs
theorem li_3 : Lifts Tryz.prog 3 encI := .int Tryz.underlying3
theorem li_107 : Lifts Tryz.prog 107 (enPair encI encI) := Lifts.struct2 Tryz.underlying107 rfl rfl (by kernel_rfl) (by kernel_rfl) (by kernel_rfl) li_3 li_3
theorem li_133 : Lifts Tryz.prog 133 encC := (Lifts.struct3 Tryz.underlying133 rfl rfl rfl (by kernel_rfl) (by kernel_rfl) (by kernel_rfl) (by kernel_rfl) li_3 li_3 li_3).map fun x => ⟨⟨x.1, x.2.1, x.2.2⟩, rfl⟩
theorem li_108 : Lifts Tryz.prog 108 (encSl encC) := .slice Tryz.underlying108 (by kernel_rfl) (by decide) li_133
theorem li_110 : Lifts Tryz.prog 110 encG := (Lifts.struct3 Tryz.underlying110 rfl rfl rfl (by kernel_rfl) (by kernel_rfl) (by kernel_rfl) (by kernel_rfl) li_107 li_3 li_108).map fun x => ⟨⟨x.1.1, x.1.2, x.2.1, x.2.2⟩, rfl⟩
theorem li_22 : Lifts Tryz.prog 22 (encSl encG) := .slice Tryz.underlying22 (by kernel_rfl) (by decide) li_110
theorem li_24 : Lifts Tryz.prog 24 encB := (Lifts.struct2 Tryz.underlying24 rfl rfl (by kernel_rfl) (by kernel_rfl) (by kernel_rfl) li_3 li_22).map fun x => ⟨⟨x.1, x.2⟩, rfl⟩
theorem li_28 : Lifts Tryz.prog 28 (encSl encI) := .slice Tryz.underlying28 (by kernel_rfl) (by decide) li_3
theorem li_54 : Lifts Tryz.prog 54 encIt := (Lifts.struct1 Tryz.underlying54 rfl (by kernel_rfl) (by kernel_rfl) li_28).map fun x => ⟨⟨x⟩, rfl⟩
theorem li_25 : Lifts Tryz.prog 25 (encSl encIt) := .slice Tryz.underlying25 (by kernel_rfl) (by decide) li_54
theorem li_27 : Lifts Tryz.prog 27 encCa := (Lifts.struct2 Tryz.underlying27 rfl rfl (by kernel_rfl) (by kernel_rfl) (by kernel_rfl) li_24 li_25).map fun x => ⟨⟨x.1, x.2⟩, rfl⟩
theorem li_37 : Lifts Tryz.prog 37 encU16 := .u16 Tryz.underlying37
end Go.Am.YthckcbfijdambaaGreat
end
section
namespace Go.Am
set_option linter.unusedVariables false
theorem i64_small {x : Int} (h : -4000000000000000000 ≤ x ∧ x ≤ 4000000000000000000) : I64 x := by unfold I64; omega
section
variable {σ ε J A β : Type}
theorem Ok.ifp {p : Prop} [Decidable p] {x y : Option β} {Q : β → Prop} (h : p) (hx : Ok x Q) : Ok (if p then x else y) Q := by rw [if_pos h]; exact hx
theorem Ok.ifn {p : Prop} [Decidable p] {x y : Option β} {Q : β → Prop} (h : ¬ p) (hy : Ok y Q) : Ok (if p then x else y) Q := by rw [if_neg h]; exact hy
theorem Ok.eq {x : Option β} {a : β} {Q : β → Prop} (h : x = Option.some a) (hq : Q a) : Ok x Q := ⟨a, h, hq⟩
theorem Ok.andx' {x : Option J} {k : J → Option β} {a : J} {Q : β → Prop} (h : x = Option.some a) (hk : Ok (k a) Q) : Ok (Am.andx x k) Q := by subst h; exact hk
def CountQ (idx : σ → Int) (I : Nat → σ → Prop) (k : Nat) (Q : ε → Prop) : Stp σ ε → Prop
 | .ag s => idx s = k + 1 ∧ I (k + 1) s
 | .dn e => Q e
def FinQ (Q : ε → Prop) : Stp σ ε → Prop
 | .ag _ => False
 | .dn e => Q e
theorem Ok.count (idx : σ → Int) (n : Nat) (I : Nat → σ → Prop) {body : σ → Option (Stp σ ε)} {s0 : σ} {Q : ε → Prop} (h0 : idx s0 = 0) (hI : I 0 s0)
  (step : ∀ k s, k < n → idx s = k → I k s → Ok (body s) (CountQ idx I k Q)) (fin : ∀ s, idx s = n → I n s → Ok (body s) (FinQ Q)) : Ok (Am.iter body s0) Q := by
 refine Ok.iter (fun s => ∃ k : Nat, k ≤ n ∧ idx s = k ∧ I k s) (fun s => n - (idx s).toNat) ⟨0, Nat.zero_le _, h0, hI⟩ ?_;rintro s ⟨k, hk, hx, hi⟩
 by_cases hlt : k < n
 ·refine (step k s hlt hx hi).mono fun x hq => ?_
  cases x with
  | ag s' =>
   have h1 : idx s' = k + 1 := hq.1;exact ⟨⟨k + 1, by omega, by rw [h1]; rfl, hq.2⟩, by show n - (idx s').toNat < n - (idx s).toNat; rw [h1, hx]; omega⟩
  | dn e => exact hq
 ·have : k = n := by omega
  subst this;refine (fin s hx hi).mono fun x hq => ?_
  cases x with
  | ag s' => exact hq.elim
  | dn e => exact hq
end
theorem get_of {α : Type} {l : List α} {k : Nat} {i : Int} {a : α} (h : l[i.toNat]? = some a) (hi : i = k) : l[k]? = some a := by rw [hi] at h; simpa using h
end Go.Am
end
section
namespace Go.Am
def cntOf (t : List Int) : Int → Int := fun x => ((t.countP fun y => decide (y = x) : Nat) : Int)
theorem cntOf_snoc (t : List Int) (n : Int) : cntOf (t ++ [n]) = putI (cntOf t) n (cntOf t n + 1) := by
 funext x
 unfold cntOf putI;rw [List.countP_append]
 by_cases h : x = n
 ·subst h; simp
 ·have : ¬ n = x := fun e => h e.symm
  simp [h, this]
theorem cntOf_le (t : List Int) (x : Int) : 0 ≤ cntOf t x ∧ cntOf t x ≤ t.length := by
 unfold cntOf
 have := List.countP_le_length (p := fun y => decide (y = x)) (l := t);omega
theorem cntOf_pos (t : List Int) (x : Int) : 0 < cntOf t x ↔ x ∈ t := by
 unfold cntOf;rw [show (0 < ((t.countP fun y => decide (y = x) : Nat) : Int)) ↔ 0 < t.countP fun y => decide (y = x) by omega, List.countP_pos_iff];simp
theorem cntOf_zero (t : List Int) (x : Int) : cntOf t x = 0 ↔ x ∉ t := by
 have := cntOf_pos t x
 have := (cntOf_le t x).1
 constructor
 ·intro h hx; have := (cntOf_pos t x).2 hx; omega
 ·intro h; have : ¬ 0 < cntOf t x := fun k => h ((cntOf_pos t x).1 k); omega
theorem there_ok {s : Int} {g : List Gat} {its : List Item} {lv : List Leaf} {mt t : List Int} (ht : t.length ≤ 1000000) : P_c_there s g its lv mt t = some (cntOf t) := by
 refine Ok.get ?_;unfold P_c_there;refine Ok.andx (P := fun f => f = cntOf t) (Ok.count Prod.fst t.length (fun k s => s.2 = cntOf (t.take k)) rfl rfl ?_ ?_) fun _ h => .some h
 ·rintro k ⟨x, f⟩ hk hx hf;simp only at hx hf;subst hf;unfold P_c_there_L1;refine .ifp (by omega) (.el (by omega) fun a ha => ?_)
  have ha := get_of ha hx
  have := cntOf_le (t.take k) a
  have : (t.take k).length ≤ t.length := by rw [List.length_take]; omega
  refine .chk (i64_small (by omega)) (.chk (i64_small (by omega)) (.some ⟨by simp only; omega, ?_⟩))
  show _ = cntOf (t.take (k + 1));rw [take_snoc ha, cntOf_snoc]
 ·rintro ⟨x, f⟩ hx hf;simp only at hx hf;unfold P_c_there_L1;refine .ifn (by omega) (.some ?_)
  show _ = _;rw [hf, List.take_length]
def lostOf (n : Nat) (t : List Int) : List Int := ((List.range n).map fun i : Nat => (i : Int)).filter fun x => decide (x ∉ t)
theorem lostOf_succ (n : Nat) (t : List Int) : lostOf (n + 1) t = if (n : Int) ∉ t then lostOf n t ++ [(n : Int)] else lostOf n t := by
 unfold lostOf;rw [List.range_succ, List.map_append, List.filter_append]
 by_cases h : (n : Int) ∈ t <;> simp [h]
theorem lostOf_len (n : Nat) (t : List Int) : (lostOf n t).length ≤ n := by
 unfold lostOf;exact Nat.le_trans (List.length_filter_le _ _) (by simp)
theorem lost_ok {s : Int} {g : List Gat} {its : List Item} {lv : List Leaf} {mt t : List Int} (ht : t.length ≤ 1000000) (hl : lv.length ≤ 1000000) : P_c_lost s g its lv mt t = some (lostOf lv.length t) := by
 refine Ok.get ?_;unfold P_c_lost;refine .andx' (there_ok ht) ?_;refine Ok.andx (P := fun l => l = lostOf lv.length t) (Ok.count Prod.fst lv.length (fun k s => s.2 = lostOf k t) rfl rfl ?_ ?_) fun _ h => .some h
 ·rintro k ⟨x, l⟩ hk hx hl';simp only at hx hl';subst hl'
  have hlen := lostOf_len k t;unfold P_c_lost_L1;refine .ifp (by omega) (Ok.andx (P := fun l => l = lostOf (k + 1) t) ?_ ?_)
  ·refine .ite (fun hc => ?_) (fun hc => ?_)
   ·refine .chk (by simp; omega) (.some ?_)
    show _ = _;rw [lostOf_succ, if_pos (by rw [← hx]; exact (cntOf_zero t x).1 hc), hx]
   ·refine .some ?_
    show _ = _;rw [lostOf_succ, if_neg (by rw [← hx]; exact fun h => hc ((cntOf_zero t x).2 h))]
  ·rintro l' rfl;exact .chk (i64_small (by omega)) (.some ⟨by simp only; omega, rfl⟩)
 ·rintro ⟨x, l⟩ hx hl';simp only at hx hl';unfold P_c_lost_L1;exact .ifn (by omega) (.some hl')
def looseOf (mt t : List Int) : Nat → List Int
 | 0 => []
 | n + 1 => looseOf mt t n ++ (match mt[n]? with | some m => if (n : Int) ∈ t ∧ m ≥ 0 ∧ m ∉ t then [(n : Int)] else [] | none => [])
theorem looseOf_len (mt t : List Int) : ∀ n, (looseOf mt t n).length ≤ n := by
 intro n
 induction n with
 | zero => simp [looseOf]
 | succ n ih =>
  unfold looseOf;rw [List.length_append];split
  ·split <;> simp <;> omega
  ·simp; omega
theorem loose_ok {s : Int} {g : List Gat} {its : List Item} {lv : List Leaf} {mt t : List Int} (ht : t.length ≤ 1000000) (hl : mt.length ≤ 1000000) : P_c_loose s g its lv mt t = some (looseOf mt t mt.length) := by
 refine Ok.get ?_;unfold P_c_loose;refine .andx' (there_ok ht) ?_;refine Ok.andx (P := fun l => l = looseOf mt t mt.length) (Ok.count Prod.fst mt.length (fun k s => s.2 = looseOf mt t k) rfl rfl ?_ ?_) fun _ h => .some h
 ·rintro k ⟨x, l⟩ hk hx hl';simp only at hx hl';subst hl'
  have hlen := looseOf_len mt t k;unfold P_c_loose_L1;refine .ifp (by omega) (Ok.andx (P := fun l => l = looseOf mt t (k + 1)) ?_ ?_)
  ·refine .el (by omega) fun m hm0 => ?_
   have hm := get_of hm0 hx;subst hx;refine Ok.andx (P := fun b => b = true ↔ ((k : Int) ∈ t ∧ m ≥ 0 ∧ m ∉ t)) ?_ ?_
   ·refine .ite (fun hc => ?_) (fun hc => ?_)
    ·have h1 := (cntOf_pos t k).1 hc;refine .ite (fun hd => .some ?_) (fun hd => .some ?_)
     ·simp [h1, hd, cntOf_zero]
     ·simp [hd]
    ·have h1 : (k : Int) ∉ t := fun h => hc ((cntOf_pos t k).2 h)
     exact .some (by simp [h1])
   ·rintro b hb;refine .ite (fun hc => ?_) (fun hc => ?_)
    ·refine .chk (by simp; omega) (.some ?_)
     show _ = _;rw [looseOf, hm];simp only;rw [if_pos (hb.1 hc)]
    ·refine .some ?_
     show _ = _;rw [looseOf, hm];simp only;rw [if_neg (fun h => hc (hb.2 h)), List.append_nil]
  ·rintro l' rfl;exact .chk (i64_small (by omega)) (.some ⟨by simp only; omega, rfl⟩)
 ·rintro ⟨x, l⟩ hx hl';simp only at hx hl';unfold P_c_loose_L1;exact .ifn (by omega) (.some hl')
end Go.Am
end
section
namespace Go.Am
set_option linter.unusedVariables false
def idxTo (p : Nat → Int → Bool) (t : List Int) : Nat → List Int
 | 0 => []
 | k + 1 => idxTo p t k ++ (match t[k]? with | some n => if p k n = true then [(k : Int)] else [] | none => [])
theorem idxTo_succ {p : Nat → Int → Bool} {t : List Int} {k : Nat} {n : Int} (h : t[k]? = some n) : idxTo p t (k + 1) = if p k n = true then idxTo p t k ++ [(k : Int)] else idxTo p t k := by
 rw [idxTo, h];simp only;split <;> simp
theorem idxTo_len (p : Nat → Int → Bool) (t : List Int) : ∀ k, (idxTo p t k).length ≤ k := by
 intro k
 induction k with
 | zero => simp [idxTo]
 | succ k ih =>
  rw [idxTo, List.length_append];split
  ·split <;> simp <;> omega
  ·simp; omega
def isPlain (t : List Int) (k : Nat) (n : Int) : Bool := decide (0 ≤ n ∧ n ∉ t.take k)
def isStrange (k : Nat) (n : Int) : Bool := decide (n < 0)
def isTwice (t : List Int) (k : Nat) (n : Int) : Bool := decide (0 ≤ n ∧ n ∈ t.take k)
def strangeOf (t : List Int) : List Int := idxTo isStrange t t.length
def twiceOf (t : List Int) : List Int := idxTo (isTwice t) t t.length
def gathOf (lv : List Leaf) (x : Int) : Int := match lv[x.toNat]? with | some a => a.g | none => 0
def rnStep (g : Int → Int) (l : List S_copy_run) (i n : Int) : List S_copy_run :=
 match l[l.length - 1]? with
 | some r => if r.last < n ∧ g r.last = g n then l.set (l.length - 1) ⟨r.item, r.first, n⟩ else l ++ [⟨i, n, n⟩]
 | none => l ++ [⟨i, n, n⟩]
def runsTo (g : Int → Int) (t : List Int) : Nat → List S_copy_run
 | 0 => []
 | k + 1 => match t[k]? with | some n => if isPlain t k n = true then rnStep g (runsTo g t k) k n else runsTo g t k | none => runsTo g t k
def runsOf (g : Int → Int) (t : List Int) : List S_copy_run := runsTo g t t.length
def RunOk (n : Nat) (r : S_copy_run) : Prop := 0 ≤ r.first ∧ r.first < n ∧ 0 ≤ r.last ∧ r.last < n
theorem rnStep_ok {g : Int → Int} {l : List S_copy_run} {i n : Int} {N : Nat} (h : ∀ r ∈ l, RunOk N r) (hn : 0 ≤ n ∧ n < N) : ∀ r ∈ rnStep g l i n, RunOk N r := by
 unfold rnStep
 have happ : ∀ r ∈ l ++ [(⟨i, n, n⟩ : S_copy_run)], RunOk N r := fun r hr => by
  rcases List.mem_append.1 hr with hr | hr
  ·exact h r hr
  ·rw [List.mem_singleton] at hr;subst hr;exact ⟨hn.1, hn.2, hn.1, hn.2⟩
 split
 ·rename_i r hr
  split
  ·intro x hx
   rcases List.mem_or_eq_of_mem_set hx with hx | rfl
   ·exact h x hx
   ·have := h r (List.mem_of_getElem? hr);exact ⟨this.1, this.2.1, hn.1, hn.2⟩
  ·exact happ
 ·exact happ
theorem rnStep_len {g : Int → Int} {l : List S_copy_run} {i n : Int} : (rnStep g l i n).length ≤ l.length + 1 := by
 unfold rnStep;split
 ·split <;> simp
 ·simp
theorem runsTo_ok {g : Int → Int} {t : List Int} {N : Nat} (ht : ∀ x ∈ t, x < N) : ∀ k, (∀ r ∈ runsTo g t k, RunOk N r) ∧ (runsTo g t k).length ≤ k := by
 intro k
 induction k with
 | zero => simp [runsTo]
 | succ k ih =>
  rw [runsTo];split
  ·rename_i n hn
   split
   ·rename_i hp
    have h0 : 0 ≤ n := (of_decide_eq_true hp).1;refine ⟨rnStep_ok ih.1 ⟨h0, ht _ (List.mem_of_getElem? hn)⟩, ?_⟩
    have := rnStep_len (g := g) (l := runsTo g t k) (i := k) (n := n);omega
   ·exact ⟨ih.1, by omega⟩
  ·exact ⟨ih.1, by omega⟩
theorem runsTo_succ {g : Int → Int} {t : List Int} {k : Nat} {n : Int} (h : t[k]? = some n) : runsTo g t (k + 1) = if isPlain t k n = true then rnStep g (runsTo g t k) k n else runsTo g t k := by rw [runsTo, h]
def follow (last : Int) (ps : List (S_copy_run × Int)) (a : Int) : Int := ps.foldl (fun a p => if p.1.first > last then max a p.2 else a) a
def chains : List S_copy_run → List Int
 | [] => []
 | r :: l => (follow r.last (l.zip (chains l)) 0 + 1) :: chains l
theorem chains_len : ∀ l, (chains l).length = l.length := by
 intro l
 induction l with
 | nil => rfl
 | cons r l ih => simp [chains, ih]
theorem follow_bounds {last : Int} {M : Int} : ∀ (ps : List (S_copy_run × Int)) (a : Int), (∀ p ∈ ps, p.2 ≤ M) → a ≤ M → a ≤ follow last ps a ∧ follow last ps a ≤ M := by
 intro ps
 induction ps with
 | nil => intro a _ h; exact ⟨Int.le_refl _, h⟩
 | cons p ps ih =>
  intro a h ha
  have hp := h p List.mem_cons_self
  have ht : ∀ p ∈ ps, p.2 ≤ M := fun q hq => h q (List.mem_cons_of_mem _ hq)
  show a ≤ follow last ps (if p.1.first > last then max a p.2 else a) ∧ _;split
  ·have := ih (max a p.2) ht (by omega);exact ⟨by omega, by rw [follow, List.foldl_cons]; rename_i hc; rw [if_pos hc]; exact this.2⟩
  ·have := ih a ht ha;exact ⟨this.1, by rw [follow, List.foldl_cons]; rename_i hc; rw [if_neg hc]; exact this.2⟩
theorem chains_bounds : ∀ (l : List S_copy_run), ∀ m ∈ chains l, 1 ≤ m ∧ m ≤ l.length := by
 intro l
 induction l with
 | nil => intro m h; cases h
 | cons r l ih =>
  intro m h;rw [chains] at h
  rcases List.mem_cons.1 h with rfl | h
  ·have := follow_bounds (last := r.last) (M := l.length) (l.zip (chains l)) 0 (fun p hp => (ih p.2 (List.of_mem_zip hp).2).2) (by omega);rw [List.length_cons];omega
  ·have := ih m h;rw [List.length_cons];omega
def top : List Int → Int
 | [] => 0
 | m :: ms => max (top ms) m
theorem top_bounds {M : Int} (hM : 0 ≤ M) : ∀ l : List Int, (∀ m ∈ l, m ≤ M) → 0 ≤ top l ∧ top l ≤ M := by
 intro l
 induction l with
 | nil => intro _; exact ⟨Int.le_refl _, hM⟩
 | cons a l ih =>
  intro h
  have := ih fun m hm => h m (List.mem_cons_of_mem _ hm)
  have := h a List.mem_cons_self;rw [top];omega
def movedFrom : List (S_copy_run × Int) → Int → Int → List Int
 | [], _, _ => []
 | p :: ps, b, last => if p.2 = b ∧ p.1.first > last then movedFrom ps (b - 1) p.1.last else p.1.item :: movedFrom ps b last
def movedOf (l : List S_copy_run) : List Int := movedFrom (l.zip (chains l)) (top (chains l)) (-1)
theorem movedFrom_len : ∀ (ps : List (S_copy_run × Int)) (b last : Int), (movedFrom ps b last).length ≤ ps.length := by
 intro ps
 induction ps with
 | nil => intro b last; exact Nat.le_refl _
 | cons p ps ih =>
  intro b last;rw [movedFrom];split
  ·have := ih (b - 1) p.1.last;rw [List.length_cons]; omega
  ·have := ih b last;rw [List.length_cons, List.length_cons]; omega
theorem movedOf_len (l : List S_copy_run) : (movedOf l).length ≤ l.length := by
 have := movedFrom_len (l.zip (chains l)) (top (chains l)) (-1);unfold movedOf;rw [List.length_zip, chains_len] at this;omega
def row (l : List S_copy_run) (i : Nat) : List Int := List.replicate i 0 ++ (chains (l.drop i) ++ List.replicate (120 - l.length) 0)
theorem row_len {l : List S_copy_run} {i : Nat} (h : l.length ≤ 120) (hi : i ≤ l.length) : (row l i).length = 120 := by
 unfold row;rw [List.length_append, List.length_append, List.length_replicate, List.length_replicate, chains_len, List.length_drop];omega
theorem row_get {l : List S_copy_run} {i k : Nat} (hk : i ≤ k) (hl : k < l.length) : (row l i)[k]? = (chains (l.drop i))[k - i]? := by
 unfold row;rw [List.getElem?_append_right (by rw [List.length_replicate]; exact hk), List.length_replicate, List.getElem?_append_left (by rw [chains_len, List.length_drop]; omega)]
theorem inner_ok {l : List S_copy_run} {i : Nat} {r : S_copy_run} (hl : l.length ≤ 120) (hr : l[i]? = some r) :
  iter (P_c_moved_L2 l i) (((i : Int) + 1), row l (i + 1)) = some ((row l (i + 1)).set i (follow r.last ((l.drop (i + 1)).zip (chains (l.drop (i + 1)))) 0)) := by
 have hi : i < l.length := (List.getElem?_eq_some_iff.1 hr).1;refine Ok.get ?_
 have hz : (row l (i + 1))[i]? = some 0 := by
  unfold row;rw [List.getElem?_append_left (by rw [List.length_replicate]; omega)];simp
 have hset0 : (row l (i + 1)).set i 0 = row l (i + 1) := by
  obtain ⟨h1, h2⟩ := List.getElem?_eq_some_iff.1 hz;rw [← h2, List.set_getElem_self]
 have hrl := row_len hl (show i + 1 ≤ l.length by omega);refine Ok.count (fun s => s.1 - ((i : Int) + 1)) (l.length - (i + 1)) (fun k s => s.2 = (row l (i + 1)).set i (follow r.last (((l.drop (i + 1)).zip (chains (l.drop (i + 1)))).take k) 0)) (by simp only; omega) (by simp only [List.take_zero]; exact hset0.symm) ?_ ?_
 ·rintro k ⟨kk, many⟩ hk hx hm;simp only at hx hm
  have hkk : kk = ((i + 1 + k : Nat) : Int) := by omega
  subst hkk;subst hm
  have hlen : ((row l (i + 1)).set i (follow r.last (((l.drop (i + 1)).zip (chains (l.drop (i + 1)))).take k) 0)).length = 120 := by rw [List.length_set, hrl]
  have hd : (l.drop (i + 1))[k]? = l[i + 1 + k]? := by rw [List.getElem?_drop]
  have hck : k < (chains (l.drop (i + 1))).length := by rw [chains_len, List.length_drop]; omega
  have hdk : k < (l.drop (i + 1)).length := by rw [List.length_drop]; omega
  have hzip : ((l.drop (i + 1)).zip (chains (l.drop (i + 1))))[k]? = some ((l.drop (i + 1))[k], (chains (l.drop (i + 1)))[k]) := by
   rw [List.getElem?_zip_eq_some];exact ⟨List.getElem?_eq_getElem hdk, List.getElem?_eq_getElem hck⟩
  have hf : follow r.last (((l.drop (i + 1)).zip (chains (l.drop (i + 1)))).take (k + 1)) 0 = (if (l.drop (i + 1))[k].first > r.last then max (follow r.last (((l.drop (i + 1)).zip (chains (l.drop (i + 1)))).take k) 0) (chains (l.drop (i + 1)))[k] else follow r.last (((l.drop (i + 1)).zip (chains (l.drop (i + 1)))).take k) 0) := by
   rw [take_snoc hzip, follow, List.foldl_append];rfl
  have hri : (row l (i + 1))[i + 1 + k]? = some (chains (l.drop (i + 1)))[k] := by
   rw [row_get (by omega) (by omega), show i + 1 + k - (i + 1) = k by omega, List.getElem?_eq_getElem hck]
  have hA : l[i + 1 + k]? = some (l.drop (i + 1))[k] := by rw [← hd, List.getElem?_eq_getElem hdk]
  generalize hF : follow r.last (((l.drop (i + 1)).zip (chains (l.drop (i + 1)))).take k) 0 = F at *;unfold P_c_moved_L2;refine .ifp (by omega) (Ok.andx (P := fun m => m = (row l (i + 1)).set i (follow r.last (((l.drop (i + 1)).zip (chains (l.drop (i + 1)))).take (k + 1)) 0)) ?_ ?_)
  ·refine .el (by omega) fun a ha => ?_
   have ha := get_of ha rfl;rw [hA] at ha;cases ha;refine .el (by omega) fun b hb => ?_
   have hb := get_of hb rfl;rw [hr] at hb;cases hb;refine .ite (fun hc => ?_) (fun hc => ?_)
   ·refine .chk (by rw [hlen]; rfl) (.el (by rw [hlen]; omega) fun x hx1 => ?_)
    have hx1 := get_of hx1 rfl;rw [List.getElem?_set_self (by rw [hrl]; omega)] at hx1;cases hx1;refine .chk (by rw [hlen]; rfl) (.el (by rw [hlen]; omega) fun y hy1 => ?_)
    have hy1 := get_of hy1 rfl;rw [List.getElem?_set_ne (by omega), hri] at hy1;cases hy1;refine .chk (by rw [hlen]; rfl) (.el (by rw [hlen]; omega) fun w hw1 => .some ?_)
    show _ = _;rw [hf, if_pos hc, Int.toNat_natCast, List.set_set]
   ·refine .some ?_
    show _ = _;rw [hf, if_neg hc]
  ·rintro m rfl;exact .chk (i64_small (by omega)) (.some ⟨by simp only; omega, rfl⟩)
 ·rintro ⟨kk, many⟩ hx hm;simp only at hx hm;unfold P_c_moved_L2;refine .ifn (by omega) (.some ?_)
  show many = _;rw [hm, List.take_of_length_le (by rw [List.length_zip, chains_len, List.length_drop]; omega)]
theorem row_step {l : List S_copy_run} {i : Nat} {r : S_copy_run} (hr : l[i]? = some r) : (row l (i + 1)).set i (follow r.last ((l.drop (i + 1)).zip (chains (l.drop (i + 1)))) 0 + 1) = row l i := by
 have e : List.replicate (i + 1) (0 : Int) = List.replicate i 0 ++ [0] := List.replicate_succ';unfold row;rw [e, List.append_assoc, List.set_append_right _ _ (by rw [List.length_replicate]; omega), List.length_replicate, Nat.sub_self, drop_cons hr, chains];rfl
theorem moved_ok {l : List S_copy_run} {N : Nat} (hl : l.length ≤ 120) (hr : ∀ r ∈ l, RunOk N r) : P_c_moved l = some (movedOf l) := by
 refine Ok.get ?_;unfold P_c_moved
 have hcb := chains_bounds;refine Ok.andx (P := fun s => s = (top (chains l), row l 0)) (.chk (i64_small (by omega)) ?_) ?_
 ·refine Ok.count (fun s => ((l.length : Int) - 1) - s.2.1) l.length (fun k s => s.1 = top (chains (l.drop (l.length - k))) ∧ s.2.2 = row l (l.length - k)) (by simp only; omega) ⟨by simp [chains, top], ?_⟩ ?_ ?_
  ·simp only [Nat.sub_zero, row, List.drop_length, chains, List.nil_append];rw [List.replicate_append_replicate, show l.length + (120 - l.length) = 120 by omega]
  ·rintro k ⟨best, i, many⟩ hk hx ⟨hb, hm⟩;simp only at hx hb hm;obtain ⟨j, hj⟩ : ∃ j : Nat, j = l.length - 1 - k := ⟨_, rfl⟩
   have hi : i = (j : Int) := by omega
   subst hi
   have hjl : j < l.length := by omega
   obtain ⟨r, hrj⟩ : ∃ r, l[j]? = some r := ⟨_, List.getElem?_eq_getElem hjl⟩
   have e1 : l.length - k = j + 1 := by omega
   have e2 : l.length - (k + 1) = j := by omega
   rw [e1] at hb hm;subst hb hm
   have hset : ∀ x, (((row l (j + 1)).set j x).length : Int) * 1 = 120 := fun x => by rw [List.length_set, row_len hl (by omega)]; rfl
   have hch : chains (l.drop j) = (follow r.last ((l.drop (j + 1)).zip (chains (l.drop (j + 1)))) 0 + 1) :: chains (l.drop (j + 1)) := by rw [drop_cons hrj, chains]
   have hbd := hcb (l.drop j) (follow r.last ((l.drop (j + 1)).zip (chains (l.drop (j + 1)))) 0 + 1) (by rw [hch]; exact List.mem_cons_self)
   have hld : (l.drop j).length ≤ 120 := by rw [List.length_drop]; omega
   generalize hF : follow r.last ((l.drop (j + 1)).zip (chains (l.drop (j + 1)))) 0 = F at *;unfold P_c_moved_L1;refine .ifp (by omega) (Ok.andx (P := fun s => s = (top (chains (l.drop j)), row l j)) ?_ ?_)
   ·refine Ok.andx' (a := (row l (j + 1)).set j F) ?_ ?_
    ·have := inner_ok hl hrj;rw [hF] at this;rw [chk_pos (i64_small (by omega))];exact this
    ·refine .chk (hset _) (.el (by rw [List.length_set, row_len hl (by omega)]; omega) fun a ha => ?_)
     have ha := get_of ha rfl;rw [List.getElem?_set_self (by rw [row_len hl (by omega)]; omega)] at ha;cases ha;refine .chk (i64_small (by omega)) (.chk (hset _) (.el (by rw [List.length_set, row_len hl (by omega)]; omega) fun b hb => ?_));rw [Int.toNat_natCast, List.set_set];refine .chk (hset _) (.el (by rw [List.length_set, row_len hl (by omega)]; omega) fun c hc => .some ?_)
     have hc := get_of hc rfl;rw [List.getElem?_set_self (by rw [row_len hl (by omega)]; omega)] at hc;cases hc
     show _ = _
     have := row_step hrj;rw [hF] at this;rw [hch, top, this]
   ·rintro s rfl;refine .chk (i64_small (by omega)) (.some ⟨by simp only; omega, ?_, ?_⟩)
    ·simp only [e2]
    ·simp only [e2]
  ·rintro ⟨best, i, many⟩ hx ⟨hb, hm⟩;simp only at hx hb hm;unfold P_c_moved_L1;refine .ifn (by omega) (.some ?_)
   show _ = _;rw [hb, hm, Nat.sub_self, List.drop_zero]
 ·rintro s rfl
  have hrow : ∀ k (hk : k < l.length), (row l 0)[k]? = some ((chains l)[k]'(by rw [chains_len]; exact hk)) := fun k hk => by
   rw [row_get (Nat.zero_le _) hk, List.drop_zero, Nat.sub_zero, List.getElem?_eq_getElem (by rw [chains_len]; exact hk)]
  have hl120 := row_len hl (Nat.zero_le _)
  have htop := top_bounds (M := 120) (by omega) (chains l) fun m hm => by have := hcb l m hm; omega
  refine Ok.andx (P := fun s : Int × Int × Int × List Int => s.2.2.2 = movedOf l) (Ok.count (fun s : Int × Int × List Int × Int × Int × Int => s.2.1) l.length (fun k s => movedOf l = s.2.2.1 ++ movedFrom ((l.zip (chains l)).drop k) s.1 s.2.2.2.2.2 ∧ s.2.2.1.length ≤ k ∧ -200 - (k : Int) ≤ s.1 ∧ s.1 ≤ 120 ∧ (s.2.2.2 = (-1, -1, -1) ∨ 0 ≤ s.2.2.2.2.1 ∧ 0 ≤ s.2.2.2.2.2)) rfl ⟨by simp only [List.nil_append, List.drop_zero]; rfl, Nat.le_refl _, by simp only; omega, by simp only; omega, .inl rfl⟩ ?_ ?_) ?_
  ·rintro k ⟨best, x, items, li, lf, ll⟩ hk hx ⟨h1, h2, h3, h4, h5⟩;simp only at hx h1 h2 h3 h4 h5;subst hx
   have hck : k < (chains l).length := by rw [chains_len]; exact hk
   have hzip : (l.zip (chains l))[k]? = some (l[k], (chains l)[k]) := by
    rw [List.getElem?_zip_eq_some];exact ⟨List.getElem?_eq_getElem hk, List.getElem?_eq_getElem hck⟩
   have hrk := hr l[k] (List.getElem_mem hk);rw [drop_cons hzip, movedFrom] at h1;simp only at h1;unfold P_c_moved_L3;refine .ifp (by omega) (Ok.andx (P := fun s : Int × List Int × Int × Int × Int => movedOf l = s.2.1 ++ movedFrom ((l.zip (chains l)).drop (k + 1)) s.1 s.2.2.2.2 ∧ s.2.1.length ≤ k + 1 ∧ -200 - ((k : Int) + 1) ≤ s.1 ∧ s.1 ≤ 120 ∧ (s.2.2 = (-1, -1, -1) ∨ 0 ≤ s.2.2.2.1 ∧ 0 ≤ s.2.2.2.2)) ?_ ?_)
   ·refine .el (by omega) fun a ha => ?_
    have ha := get_of ha rfl;rw [List.getElem?_eq_getElem hk] at ha;cases ha;refine Ok.andx (P := fun b : Bool => b = true ↔ ((chains l)[k] = best ∧ l[k].first > ll)) ?_ ?_
    ·refine .chk (by rw [hl120]; rfl) (.el (by rw [hl120]; omega) fun m hm => ?_)
     have hm := get_of hm rfl;rw [hrow k hk] at hm;cases hm;refine .ite (fun hc => ?_) (fun hc => ?_)
     ·refine .ite (fun hd => ?_) (fun hd => ?_)
      ·exact .some (by simp only [true_iff]; exact ⟨hc, by rw [hd.2.2]; have := hrk.1; omega⟩)
      ·exact .some (by rw [decide_eq_true_iff]; exact ⟨fun h => ⟨hc, h⟩, fun h => h.2⟩)
     ·exact .some (by simp only [Bool.false_eq_true, false_iff]; exact fun h => hc h.1)
    ·rintro b hb;refine .ite (fun hc => ?_) (fun hc => ?_)
     ·rw [if_pos (hb.1 hc)] at h1;exact .chk (i64_small (by omega)) (.some ⟨h1, by simp only; omega, by simp only; omega, by simp only; omega, .inr ⟨hrk.1, hrk.2.2.1⟩⟩)
     ·rw [if_neg (fun h => hc (hb.2 h))] at h1;refine .chk (by simp; omega) (.some ⟨?_, by simp; omega, by simp only; omega, by simp only; omega, h5⟩);simp only;rw [h1, List.append_assoc];rfl
   ·rintro ⟨b', it', li', lf', ll'⟩ ⟨q1, q2, q3, q4, q5⟩;exact .chk (i64_small (by omega)) (.some ⟨rfl, q1, q2, by simp only at q3 ⊢; omega, q4, q5⟩)
  ·rintro ⟨best, x, items, li, lf, ll⟩ hx ⟨h1, h2, h3, h4, h5⟩;simp only at hx h1;unfold P_c_moved_L3;refine .ifn (by omega) (.some ?_)
   show items = _;rw [h1, List.drop_eq_nil_of_le (by rw [List.length_zip, chains_len]; omega), movedFrom, List.append_nil]
  ·rintro ⟨a, b, c, d⟩ h;exact .some h
end Go.Am
end
section
namespace Go.Am
set_option linter.unusedVariables false
def mateF (mt : List Int) (x : Int) : Int := match mt[x.toNat]? with | some m => m | none => -1
def isPiece (mt gone : List Int) (x : Int) : Bool := decide (mateF mt x < 0 ∨ mateF mt x > x ∨ mateF mt x ∉ gone)
def piecesOf (mt gone : List Int) : Int := (gone.countP (isPiece mt gone) : Nat)
theorem piecesOf_le (mt gone : List Int) : 0 ≤ piecesOf mt gone ∧ piecesOf mt gone ≤ gone.length := by
 unfold piecesOf
 have := List.countP_le_length (p := isPiece mt gone) (l := gone);omega
theorem mem_lostOf {n : Nat} {t : List Int} {x : Int} : x ∈ lostOf n t ↔ 0 ≤ x ∧ x < n ∧ x ∉ t := by
 unfold lostOf;simp only [List.mem_filter, List.mem_map, List.mem_range, decide_eq_true_eq]
 constructor
 ·rintro ⟨⟨i, hi, rfl⟩, h⟩; exact ⟨by omega, by omega, h⟩
 ·rintro ⟨h0, h1, h2⟩; exact ⟨⟨x.toNat, by omega, by omega⟩, h2⟩
theorem lostOf_sorted (n : Nat) (t : List Int) : (lostOf n t).Pairwise (· < ·) := by
 induction n with
 | zero => exact .nil
 | succ n ih =>
  rw [lostOf_succ];split
  ·rw [List.pairwise_append];refine ⟨ih, List.pairwise_singleton _ _, fun a ha b hb => ?_⟩;rw [List.mem_singleton] at hb;subst hb;exact (mem_lostOf.1 ha).2.1
  ·exact ih
theorem sorted_take {l : List Int} (hs : l.Pairwise (· < ·)) {k : Nat} {a x : Int} (ha : l[k]? = some a) : x ∈ l.take (k + 1) ↔ x ∈ l ∧ x ≤ a := by
 obtain ⟨hk, rfl⟩ := List.getElem?_eq_some_iff.1 ha;rw [List.pairwise_iff_getElem] at hs
 constructor
 ·intro h;refine ⟨List.mem_of_mem_take h, ?_⟩;obtain ⟨j, hj, rfl⟩ := List.mem_iff_getElem.1 h;rw [List.getElem_take];rw [List.length_take] at hj
  by_cases e : j = k
  ·subst e; exact Int.le_refl _
  ·exact Int.le_of_lt (hs j k (by omega) hk (by omega))
 ·rintro ⟨h, hle⟩;obtain ⟨j, hj, rfl⟩ := List.mem_iff_getElem.1 h
  have hjk : j ≤ k := by
   by_cases e : j ≤ k
   ·exact e
   ·have := hs k j hk hj (by omega); omega
  exact List.mem_iff_getElem.2 ⟨j, by rw [List.length_take]; omega, by rw [List.getElem_take]⟩
theorem pieces_ok {mt gone : List Int} (hs : gone.Pairwise (· < ·)) (hr : ∀ x ∈ gone, 0 ≤ x ∧ x < mt.length) (hl : gone.length ≤ 1000000) :
  ∃ m, iter (P_c_faults_L1 mt gone) (0, (fun _ => 0), 0) = some (m, piecesOf mt gone) := by
 suffices h : Ok (iter (P_c_faults_L1 mt gone) (0, (fun _ => 0), 0)) (fun s => s.2 = piecesOf mt gone) by
  obtain ⟨⟨m, p⟩, h1, h2⟩ := h;exact ⟨m, by rw [h1, ← h2]⟩
 refine Ok.count (fun s => s.1) gone.length (fun k (s : Int × (Int → Int) × Int) => s.2.1 = cntOf (gone.take k) ∧ s.2.2 = (((gone.take k).countP (isPiece mt gone) : Nat) : Int)) rfl ⟨rfl, rfl⟩ ?_ ?_
 ·rintro k ⟨x, m, fp⟩ hk hx ⟨hm, hp⟩;simp only at hx hm hp;subst hx hm hp;unfold P_c_faults_L1
  have hcl := List.countP_le_length (p := isPiece mt gone) (l := gone.take k)
  have htl : (gone.take k).length ≤ 1000000 := by rw [List.length_take]; omega
  refine .ifp (by omega) (Ok.andx (P := fun s : (Int → Int) × Int => s.1 = cntOf (gone.take (k + 1)) ∧ s.2 = (((gone.take (k + 1)).countP (isPiece mt gone) : Nat) : Int)) ?_ ?_)
  ·refine .el (by omega) fun a ha => ?_
   have ha := get_of ha rfl
   have har := hr a (List.mem_of_getElem? ha);refine .el har fun b hb => ?_
   have hmf : mateF mt a = b := by unfold mateF; rw [hb]
   have hc := cntOf_le (gone.take k) a
   have hsn : putI (cntOf (gone.take k)) a (cntOf (gone.take k) a + 1) = cntOf (gone.take (k + 1)) := by rw [take_snoc ha, cntOf_snoc]
   have hcp : (gone.take (k + 1)).countP (isPiece mt gone) = (gone.take k).countP (isPiece mt gone) + (if isPiece mt gone a = true then 1 else 0) := by
    rw [take_snoc ha, List.countP_append, List.countP_singleton]
   refine .chk (i64_small (by omega)) (Ok.andx (P := fun c : Bool => c = true ↔ isPiece mt gone a = true) ?_ ?_)
   ·rw [hsn];unfold isPiece;rw [hmf, decide_eq_true_iff];refine .ite (fun h => .some ?_) (fun h => .some ?_)
    ·simp only [true_iff]; exact .inl h
    ·rw [decide_eq_true_iff, cntOf_zero, sorted_take hs ha]
     constructor
     ·intro h2
      by_cases hb2 : b ∈ gone
      ·exact .inr (.inl (by have : ¬ b ≤ a := fun h3 => h2 ⟨hb2, h3⟩; omega))
      ·exact .inr (.inr hb2)
     ·rintro (h2 | h2 | h2) ⟨h3, h4⟩
      ·exact h h2
      ·omega
      ·exact h2 h3
   ·rintro c hcc;rw [hsn];refine .ite (fun h => ?_) (fun h => ?_)
    ·refine .chk (i64_small (by omega)) (.some ⟨rfl, ?_⟩);simp only;rw [hcp, if_pos (hcc.1 h)];rfl
    ·refine .some ⟨rfl, ?_⟩;simp only;rw [hcp, if_neg (fun e => h (hcc.2 e))];rfl
  ·rintro ⟨m', p'⟩ ⟨h1, h2⟩;exact .chk (i64_small (by omega)) (.some ⟨rfl, h1, h2⟩)
 ·rintro ⟨x, m, fp⟩ hx ⟨hm, hp⟩;simp only at hx hm hp;unfold P_c_faults_L1;refine .ifn (by omega) (.some ?_)
  show fp = _;rw [hp, List.take_length]; rfl
def TruthIn (n : Nat) (t : List Int) : Prop := ∀ x ∈ t, x < n
theorem runs_loop {lv : List Leaf} {t : List Int} (ht : t.length ≤ 120) (hin : TruthIn lv.length t) :
  ∃ m, iter (P_c_faults_L2 lv t) (0, [], [], [], (fun _ => 0)) = some (m, runsOf (gathOf lv) t, strangeOf t, twiceOf t) := by
 suffices h : Ok (iter (P_c_faults_L2 lv t) (0, [], [], [], (fun _ => 0))) (fun s => s.2 = (runsOf (gathOf lv) t, strangeOf t, twiceOf t)) by
  obtain ⟨⟨m, p⟩, h1, h2⟩ := h;exact ⟨m, by rw [h1, ← h2]⟩
 refine Ok.count (fun s => s.1) t.length (fun k s => s.2.1 = runsTo (gathOf lv) t k ∧ s.2.2.1 = idxTo isStrange t k ∧ s.2.2.2.1 = idxTo (isTwice t) t k ∧ ∀ a, 0 ≤ a → s.2.2.2.2 a = cntOf (t.take k) a) rfl ⟨rfl, rfl, rfl, fun a _ => by simp [cntOf]⟩ ?_ ?_
 ·rintro k ⟨x, l, st, tw, m⟩ hk hx ⟨hl, hst, htw, hm⟩;simp only at hx hl hst htw hm;subst hx hl hst htw
  have hro := runsTo_ok (g := gathOf lv) hin k
  have hs1 := idxTo_len isStrange t k
  have hs2 := idxTo_len (isTwice t) t k;unfold P_c_faults_L2;refine .ifp (by omega) (Ok.andx (P := fun s : List S_copy_run × List Int × List Int × (Int → Int) => s.1 = runsTo (gathOf lv) t (k + 1) ∧ s.2.1 = idxTo isStrange t (k + 1) ∧ s.2.2.1 = idxTo (isTwice t) t (k + 1) ∧ ∀ a, 0 ≤ a → s.2.2.2 a = cntOf (t.take (k + 1)) a) ?_ ?_)
  ·refine .el (by omega) fun n hn => ?_
   have hn := get_of hn rfl
   have hnl := hin n (List.mem_of_getElem? hn);rw [runsTo_succ hn, idxTo_succ hn, idxTo_succ hn];refine .ite (fun h0 => ?_) (fun h0 => ?_)
   ·have e1 : isPlain t k n = false := decide_eq_false (by omega)
    have e2 : isStrange k n = true := decide_eq_true h0
    have e3 : isTwice t k n = false := decide_eq_false (by omega);rw [e1, e2, e3];refine .chk (by simp; omega) (.some ⟨rfl, rfl, rfl, fun a ha => ?_⟩);simp only;rw [hm a ha, take_snoc hn, cntOf_snoc, putI_ne (by omega)]
   ·have hc := cntOf_le (t.take k) n
    have htl : (t.take k).length ≤ 120 := by rw [List.length_take]; omega
    have hmn := hm n (by omega)
    have e2 : isStrange k n = false := decide_eq_false h0;rw [e2]
    have hm' : ∀ a, 0 ≤ a → putI m n (m n + 1) a = cntOf (t.take (k + 1)) a := fun a ha => by
     rw [take_snoc hn, cntOf_snoc]
     by_cases e : a = n
     ·subst e; rw [putI_same, putI_same, hmn]
     ·rw [putI_ne e, putI_ne e, hm a ha]
    refine .chk (i64_small (by omega)) (.ite (fun h1 => ?_) (fun h1 => ?_))
    ·rw [putI_same, hmn] at h1
     have hin' := (cntOf_pos (t.take k) n).1 (by omega)
     have e1 : isPlain t k n = false := decide_eq_false (fun h => h.2 hin')
     have e3 : isTwice t k n = true := decide_eq_true ⟨by omega, hin'⟩;rw [e1, e3];exact .chk (by simp; omega) (.some ⟨rfl, rfl, rfl, hm'⟩)
    ·rw [putI_same, hmn] at h1
     have hin' : n ∉ t.take k := fun h => h1 (by have := (cntOf_pos (t.take k) n).2 h; omega)
     have e1 : isPlain t k n = true := decide_eq_true ⟨by omega, hin'⟩
     have e3 : isTwice t k n = false := decide_eq_false (fun h => hin' h.2);rw [e1, e3];generalize hL : runsTo (gathOf lv) t k = L at *;refine Ok.seqx ?_;refine .chk (i64_small (by omega)) (Ok.andx (P := fun b : Bool => (b = true ∧ ∃ r, L[L.length - 1]? = some r ∧ r.last < n ∧ gathOf lv r.last = gathOf lv n) ∨ (b = false ∧ rnStep (gathOf lv) L k n = L ++ [⟨k, n, n⟩])) ?_ ?_)
     ·refine .ite (fun h2 => ?_) (fun h2 => ?_)
      ·refine .el (by omega) fun r hr => ?_
       have hr : L[L.length - 1]? = some r := get_of hr (by omega)
       have hrk := hro.1 r (List.mem_of_getElem? hr);refine .ite (fun h3 => ?_) (fun h3 => ?_)
       ·refine .el (by omega) fun r' hr' => ?_
        have hr' : L[L.length - 1]? = some r' := get_of hr' (by omega);rw [hr] at hr';cases hr';refine .el ⟨hrk.2.2.1, hrk.2.2.2⟩ fun a ha => .el ⟨by omega, hnl⟩ fun b hb => .some ?_
        have ga : gathOf lv r.last = a.g := by unfold gathOf; rw [ha]
        have gb : gathOf lv n = b.g := by unfold gathOf; rw [hb]
        by_cases e : a.g = b.g
        ·exact .inl ⟨decide_eq_true e, r, hr, h3, by rw [ga, gb, e]⟩
        ·refine .inr ⟨decide_eq_false e, ?_⟩;unfold rnStep;rw [hr];simp only;rw [if_neg (fun h => e (by rw [← ga, ← gb]; exact h.2))]
       ·refine .some (.inr ⟨rfl, ?_⟩);unfold rnStep;rw [hr];simp only;rw [if_neg (fun h => h3 h.1)]
      ·refine .some (.inr ⟨rfl, ?_⟩)
       have : L = [] := List.eq_nil_of_length_eq_zero (by omega);subst this;rfl
     ·rintro b (⟨rfl, r, hr, h3, h4⟩ | ⟨rfl, h3⟩)
      ·have hlt := (List.getElem?_eq_some_iff.1 hr).1;refine .ifp rfl (.el (by omega) fun r' hr' => ?_)
       have hr' : L[L.length - 1]? = some r' := get_of hr' (by omega);rw [hr] at hr';cases hr';refine .some ⟨?_, rfl, rfl, hm'⟩;simp only;unfold rnStep;rw [hr];simp only;rw [if_pos (c := r.last < n ∧ gathOf lv r.last = gathOf lv n) ⟨h3, h4⟩, show ((L.length : Int) - 1).toNat = L.length - 1 by omega];simp only [if_true]
      ·refine .ifn (by simp) (.some ?_)
       show Ok _ _;refine .chk (by simp; omega) (.some ⟨?_, rfl, rfl, hm'⟩);simp only;rw [if_pos trivial, h3]
  ·rintro ⟨l', st', tw', m'⟩ ⟨q1, q2, q3, q4⟩;exact .chk (i64_small (by omega)) (.some ⟨rfl, q1, q2, q3, q4⟩)
 ·rintro ⟨x, l, st, tw, m⟩ hx ⟨hl, hst, htw, hm⟩;simp only at hx hl hst htw;unfold P_c_faults_L2;refine .ifn (by omega) (.some ?_)
  show (l, st, tw) = _;rw [hl, hst, htw];rfl
def allOf (n : Nat) (mt : List Int) (g : Int → Int) (t : List Int) : Int := piecesOf mt (lostOf n t) + (strangeOf t).length + (twiceOf t).length + (movedOf (runsOf g t)).length
theorem faults_ok {s : Int} {g : List Gat} {its : List Item} {lv : List Leaf} {mt t : List Int} (hlv : lv.length ≤ 120) (hmt : mt.length = lv.length) (ht : t.length ≤ 120) (hin : TruthIn lv.length t) :
  P_c_faults s g its lv mt t = some ([], lostOf lv.length t, piecesOf mt (lostOf lv.length t), strangeOf t, twiceOf t, movedOf (runsOf (gathOf lv) t), allOf lv.length mt (gathOf lv) t) := by
 refine Ok.get ?_;unfold P_c_faults
 have hl := lostOf_len lv.length t
 have hp := piecesOf_le mt (lostOf lv.length t)
 have h1 : (strangeOf t).length ≤ 120 := Nat.le_trans (idxTo_len _ _ _) ht
 have h2 : (twiceOf t).length ≤ 120 := Nat.le_trans (idxTo_len _ _ _) ht
 have hr := runsTo_ok (g := gathOf lv) hin t.length
 have hm := movedOf_len (runsOf (gathOf lv) t)
 have hrl : (runsOf (gathOf lv) t).length ≤ t.length := hr.2;refine .andx' (lost_ok (by omega) (by omega)) ?_;obtain ⟨m1, e1⟩ := pieces_ok (mt := mt) (lostOf_sorted lv.length t) (fun x hx => by have := mem_lostOf.1 hx; rw [hmt]; omega) (by omega);refine .andx' e1 ?_;obtain ⟨m2, e2⟩ := runs_loop ht hin;refine .andx' e2 ?_;refine .andx' (moved_ok (by omega) hr.1) ?_;refine .chk (i64_small (by omega)) (.chk (i64_small (by omega)) (.chk (i64_small (by omega)) (.some rfl)))
end Go.Am
end
section
namespace Go.Am
def BadOrder (l : List Int) : Prop := ∃ (i : Nat) (a b : Int), l[i]? = some a ∧ l[i + 1]? = some b ∧ b ≤ a
open Classical in
noncomputable def itemErr (l : List Int) (n : Int) : Int := if 4 < l.length then 3 else if ∃ x ∈ l, x < 0 ∨ n - 1 < x then 4 else if BadOrder l then 2 else 0
noncomputable def itemsErr (n : Int) : Nat → List Item → Option (Nat × Int)
 | _, [] => none
 | i, x :: l => if itemErr x.could.l n = 0 then itemsErr n (i + 1) l else some (i, itemErr x.could.l n)
def doubtsErr : Nat → Nat → List Item → Option Nat
 | _, _, [] => none
 | d, i, x :: l => if 3 < (if 1 < x.could.l.length then d + 1 else d) then some i else doubtsErr (if 1 < x.could.l.length then d + 1 else d) (i + 1) l
noncomputable def caseErr (s : Int) (g : List Gat) (its : List Item) : Int × Int × Int :=
 if (bookErr (bk s g)).2.2 = 0 then
  if 120 < (leavesOf (bk s g)).length then (1, 0, 3)
  else if 120 < its.length then (2, 0, 3)
  else match itemsErr (leavesOf (bk s g)).length 0 its with
   | some (i, e) => (2, (i : Int), e)
   | none => match doubtsErr 0 0 its with
    | some i => (3, (i : Int), 3)
    | none => (0, 0, 0)
 else (1, 0, (bookErr (bk s g)).2.2)
theorem in_ok {n lo hi : Int} : P_r4_in n lo hi = some (decide (lo ≤ n ∧ n ≤ hi)) := by
 unfold P_r4_in
 by_cases h : n ≥ lo
 ·rw [if_pos h]; simp [andx, show lo ≤ n from h]
 ·rw [if_neg h]; simp [andx, show ¬ lo ≤ n from h]
theorem item_ok {l : List Int} {n : Int} (hn : 0 ≤ n ∧ n ≤ 1000000) : P_r4_item l n = some (itemErr l n) := by
 refine Ok.get ?_;unfold P_r4_item itemErr;refine .ite (fun h => ?_) (fun h => ?_)
 ·rw [if_pos (by omega)]; exact .some rfl
 ·rw [if_neg (by omega)];refine Ok.seqx (Ok.count id l.length (fun k s => ∀ x ∈ l.take k, ¬ (x < 0 ∨ n - 1 < x)) rfl (by simp) ?_ ?_)
  ·rintro k x hk hx hi;simp only [id] at hx;unfold P_r4_item_L1;refine .ifp (by omega) (.el (by omega) fun a ha => .chk (i64_small (by omega)) (.andx' in_ok ?_))
   have ha := get_of ha hx;refine .ite (fun hc => ?_) (fun hc => ?_)
   ·refine .chk (i64_small (by omega)) (.some ⟨by simp only [id]; omega, ?_⟩)
    show ∀ y ∈ l.take (k + 1), _;rw [take_snoc ha];intro y hy
    rcases List.mem_append.1 hy with hy | hy
    ·exact hi y hy
    ·simp at hy; subst hy; simp at hc; omega
   ·refine .some ?_
    show 4 = _;rw [if_pos ⟨a, List.mem_of_getElem? ha, by simp at hc; omega⟩]
  ·rintro x hx hi;simp only [id] at hx;unfold P_r4_item_L1;rw [List.take_length] at hi;refine .ifn (by omega) (.some ?_)
   show Ok _ _;rw [if_neg (fun ⟨y, h1, h2⟩ => hi y h1 h2)];refine Ok.seqx (Ok.iter (fun i => 1 ≤ i ∧ ∀ (k : Nat) (a b : Int), (k : Int) + 1 < i → l[k]? = some a → l[k + 1]? = some b → a < b) (fun i => l.length - i.toNat) ⟨by omega, fun k a b h => by omega⟩ ?_);rintro i ⟨h1, h2⟩;unfold P_r4_item_L2;refine .ite (fun hc => ?_) (fun hc => ?_)
   ·refine .el (by omega) fun b hb => .chk (i64_small (by omega)) (.el (by omega) fun a ha => ?_)
    have e : i.toNat = (i - 1).toNat + 1 := by omega
    rw [e] at hb;refine .ite (fun hd => .some ?_) (fun hd => .chk (i64_small (by omega)) (.some ⟨⟨by omega, ?_⟩, by simp only; omega⟩))
    ·show 2 = _;rw [if_pos ⟨_, a, b, ha, hb, hd⟩]
    ·intro k a' b' hk ha' hb'
     by_cases hk' : (k : Int) + 1 < i
     ·exact h2 k a' b' hk' ha' hb'
     ·have : k = (i - 1).toNat := by omega
      subst this;rw [ha] at ha'; rw [hb] at hb';cases ha'; cases hb';omega
   ·refine .some ?_
    show Ok _ _;refine .some ?_;rw [if_neg];rintro ⟨k, a, b, ha, hb, hd⟩
    have := (List.getElem?_eq_some_iff.1 hb).1
    have := h2 k a b (by omega) ha hb;omega
theorem itemsErr_drop {n : Int} {l : List Item} {k : Nat} {x : Item} (h : l[k]? = some x) : itemsErr n k (l.drop k) = if itemErr x.could.l n = 0 then itemsErr n (k + 1) (l.drop (k + 1)) else some (k, itemErr x.could.l n) := by
 rw [drop_cons h]; rfl
theorem doubtsErr_drop {d : Nat} {l : List Item} {k : Nat} {x : Item} (h : l[k]? = some x) : doubtsErr d k (l.drop k) = if 3 < (if 1 < x.could.l.length then d + 1 else d) then some k else doubtsErr (if 1 < x.could.l.length then d + 1 else d) (k + 1) (l.drop (k + 1)) := by
 rw [drop_cons h]; rfl
theorem r4_Check_ok {s : Int} {g : List Gat} {its : List Item} : P_r4_Check s g its = some (caseErr s g its) := by
 refine Ok.get ?_;unfold P_r4_Check caseErr;refine .andx' (x := P_r1_Check s g) rfl ?_;dsimp only
 by_cases h0 : (bookErr (bk s g)).2.2 = 0
 ·have hf := book_fits h0
  have hall : P_r1_All s g = some (leavesOf (bk s g)) := by unfold P_r1_All; rw [chk_pos hf]
  have hlen := leaves_len hf;rw [if_pos h0, if_pos h0, hall];simp only [andx];generalize hL : leavesOf (bk s g) = lv at hlen
  by_cases h1 : 120 < lv.length
  ·rw [if_pos (show decide ((lv.length : Int) > 120) = true by simp; omega), if_pos h1];simp only;refine .ifp (by omega) (.some rfl)
  ·rw [if_neg (show ¬ decide ((lv.length : Int) > 120) = true by simp; omega), if_neg h1];simp only [h0];refine .ifn (by simp) ?_
   by_cases h2 : 120 < its.length
   ·rw [if_pos h2]; refine .ifp (by omega) (.some rfl)
   ·rw [if_neg h2];refine .ifn (by omega) (Ok.seqx (Ok.count id its.length (fun k _ => itemsErr lv.length 0 its = itemsErr lv.length k (its.drop k)) rfl rfl ?_ ?_))
    ·rintro k i hk hi hI;simp only [id] at hi;subst hi;unfold P_r4_Check_L1;refine .ifp (by omega) (.el (by omega) fun x hx => .andx' (item_ok (by omega)) ?_)
     have hx := get_of hx rfl;rw [itemsErr_drop hx] at hI;refine .ite (fun hc => ?_) (fun hc => ?_)
     ·rw [if_neg hc] at hI;refine .some ?_
      show _ = _;rw [hI]
     ·rw [if_pos (by omega)] at hI;exact .chk (i64_small (by omega)) (.some ⟨rfl, hI⟩)
    ·rintro i hi hI;simp only [id] at hi;subst hi;unfold P_r4_Check_L1;rw [List.drop_length] at hI;refine .ifn (by omega) (.some ?_)
     show Ok _ _;rw [hI];simp only [itemsErr];refine Ok.seqx (Ok.count (σ := Int × Int) Prod.snd its.length (fun k s => ∃ d : Nat, s.1 = d ∧ d ≤ 3 ∧ doubtsErr 0 0 its = doubtsErr d k (its.drop k)) rfl ⟨0, rfl, by omega, rfl⟩ ?_ ?_)
     ·rintro k ⟨dd, i⟩ hk hi ⟨d, hd, hd3, hI⟩;simp only at hi hd;subst hi hd;unfold P_r4_Check_L2;refine .ifp (by omega) (Ok.seqx ?_);refine Ok.andx (P := fun j => ∃ x, its[k]? = some x ∧ j = ((if 1 < x.could.l.length then d + 1 else d : Nat) : Int)) (.el (by omega) fun x hx => ?_) ?_
      ·have hx := get_of hx rfl;refine .ite (fun hc => .chk (i64_small (by omega)) (.some ⟨x, hx, ?_⟩)) (fun hc => .some ⟨x, hx, ?_⟩)
       ·rw [if_pos (by omega)]; rfl
       ·rw [if_neg (by omega)]
      ·rintro j ⟨x, hx, rfl⟩;rw [doubtsErr_drop hx] at hI;generalize (if 1 < x.could.l.length then d + 1 else d) = e at hI;refine .ite (fun hc => ?_) (fun hc => ?_)
       ·rw [if_pos (by omega)] at hI;refine .some ?_
        show _ = _;rw [hI]
       ·rw [if_neg (by omega)] at hI;refine .some ?_
        show Ok _ _;exact .chk (i64_small (by omega)) (.some ⟨rfl, e, rfl, by omega, hI⟩)
     ·rintro ⟨dd, i⟩ hi ⟨d, hd, hd3, hI⟩;simp only at hi hd;subst hi hd;unfold P_r4_Check_L2;rw [List.drop_length] at hI;refine .ifn (by omega) (.some ?_)
      show Ok _ _;rw [hI];exact .some rfl
 ·rw [if_neg h0, if_neg h0];simp only [andx];rw [if_neg (by simp)];simp only;exact .ifp h0 (.some rfl)
end Go.Am
end
section
namespace Go.Am
noncomputable def lvs (s : Int) (g : List Gat) : List Leaf := leavesOf (bk s g)
noncomputable def matesTo (s : Int) (g : List Gat) (n : Nat) : List Int := (List.range n).map fun n => pairNo (bk s g) n
noncomputable def matesOf (s : Int) (g : List Gat) : List Int := matesTo s g (lvs s g).length
theorem matesTo_len (s : Int) (g : List Gat) (n : Nat) : (matesTo s g n).length = n := by simp [matesTo]
theorem matesTo_succ (s : Int) (g : List Gat) (n : Nat) : matesTo s g (n + 1) = matesTo s g n ++ [pairNo (bk s g) n] := by
 unfold matesTo; rw [List.range_succ, List.map_append]; rfl
theorem itemsErr_pos : ∀ (l : List Item) (i : Nat) (n : Int), ∀ x, itemsErr n i l = some x → x.2 ≠ 0 := by
 intro l
 induction l with
 | nil => intro i n x h; cases h
 | cons a l ih =>
  intro i n x h;unfold itemsErr at h;split at h
  ·exact ih _ _ _ h
  ·cases h; assumption
noncomputable def openRes (s : Int) (g : List Gat) (its : List Item) : Sum (Int × Int × Int) (Int × (GS encL) × (List Int) × Int × Int × Int) :=
 if (caseErr s g its).2.2 = 0 then .inr (s, GSo true encL (lvs s g), matesOf s g, 0, 0, 0) else .inl (caseErr s g its)
theorem outside_ok {lo hi : Int} {x : List Int} (h : x.length ≤ 1000000) : P_c_outside lo hi x = some (decide (∃ n ∈ x, n < lo ∨ hi < n)) := by
 unfold P_c_outside;rw [chk_pos (by omega)]
theorem order_ok {x44 : Int} {it : Item} (hl : it.could.l.length ≤ 4) {Q : Ex Unit (Stp Int (Ex Unit (Sum (Int × Int × Int) (Int × (GS encL) × (List Int) × Int × Int × Int)))) → Prop}
  (h1 : BadOrder it.could.l → Q (.rt (.dn (.rt (.inl (2, x44, 2)))))) (h2 : ¬ BadOrder it.could.l → Q (.nx ())) : Ok (iter (P_c_open_L2 x44 it) 0) Q := by
 refine Ok.iter (fun i => 0 ≤ i ∧ ∀ (k : Nat) (a b : Int), (k : Int) + 1 < i → it.could.l[k]? = some a → it.could.l[k + 1]? = some b → a < b) (fun i => it.could.l.length - i.toNat) ⟨by omega, fun k a b h => by omega⟩ ?_;rintro i ⟨h0, hI⟩;unfold P_c_open_L2;refine .ite (fun hc => ?_) (fun hc => ?_)
 ·refine Ok.seqx (.el (by omega) fun b hb => ?_)
  by_cases hi : i > 0
  ·rw [if_pos hi];refine Ok.andx (P := fun c => ∃ a, it.could.l[(i - 1).toNat]? = some a ∧ c = decide (b ≤ a)) (.chk (i64_small (by omega)) (.el (by omega) fun a ha => .some ⟨a, ha, rfl⟩)) ?_;rintro c ⟨a, ha, rfl⟩
   have e : i.toNat = (i - 1).toNat + 1 := by omega
   rw [e] at hb;refine .ite (fun hd => .some ?_) (fun hd => .some ?_)
   ·exact h1 ⟨_, a, b, ha, hb, by simpa using hd⟩
   ·refine .chk (i64_small (by omega)) (.some ⟨⟨by omega, ?_⟩, by simp only; omega⟩);intro k a' b' hk ha' hb'
    by_cases hk' : (k : Int) + 1 < i
    ·exact hI k a' b' hk' ha' hb'
    ·have : k = (i - 1).toNat := by omega
     subst this;rw [ha] at ha'; rw [hb] at hb';cases ha'; cases hb'
     have : ¬ b ≤ a := by simpa using hd
     omega
  ·rw [if_neg hi];simp only [andx];rw [if_neg (by simp)];refine .some ?_
   show Ok _ _;exact .chk (i64_small (by omega)) (.some ⟨⟨by omega, fun k a b hk => by omega⟩, by simp only; omega⟩)
 ·refine .some ?_;refine h2 ?_;rintro ⟨k, a, b, ha, hb, hd⟩
  have := (List.getElem?_eq_some_iff.1 hb).1
  have := hI k a b (by omega) ha hb;omega
theorem mate_ok {s : Int} {g : List Gat} {n : Nat} (h0 : (bookErr (bk s g)).2.2 = 0) (hn : n < (lvs s g).length) : (if ¬ (mateOf (bk s g) n).2 = 0 then (-1 : Int) else (mateOf (bk s g) n).1) = pairNo (bk s g) n := by
 rcases mate_cases h0 hn with h | ⟨h, h'⟩
 ·rw [h]; simp
 ·rw [h, h']; simp
theorem mates_ok {s : Int} {g : List Gat} (h0 : (bookErr (bk s g)).2.2 = 0) (hl : (lvs s g).length ≤ 120) : iter (P_c_open_L4 s g (lvs s g)) (0, []) = some (matesOf s g) := by
 refine Ok.get (Ok.count (σ := Int × List Int) Prod.fst (lvs s g).length (fun k x => x.2 = matesTo s g k) rfl rfl ?_ ?_)
 ·rintro k ⟨i, l⟩ hk hi hl';simp only at hi hl';subst hi hl';unfold P_c_open_L4;refine .ifp (by omega) (Ok.andx (P := fun l => l = matesTo s g (k + 1)) ?_ ?_)
  ·refine .andx' (x := P_q_Mate s g k) (a := mateOf (bk s g) k) rfl ?_
   have hme := mate_ok h0 hk;generalize mateOf (bk s g) (k : Int) = me at hme;obtain ⟨m, e⟩ := me;dsimp only at hme ⊢;refine Ok.andx (P := fun m => m = pairNo (bk s g) k) ?_ ?_
   ·refine .ite (fun hc => .some ?_) (fun hc => .some ?_)
    ·rw [if_pos hc] at hme; exact hme
    ·rw [if_neg hc] at hme; exact hme
   ·rintro m rfl
    have := matesTo_len s g k;exact .chk (by simp; omega) (.some (matesTo_succ s g k).symm)
  ·rintro l rfl;exact .chk (i64_small (by omega)) (.some ⟨rfl, rfl⟩)
 ·rintro ⟨i, l⟩ hi hl';simp only at hi hl';subst hi hl';unfold P_c_open_L4;exact .ifn (by omega) (.some rfl)
theorem open_ok {s : Int} {g : List Gat} {its : List Item} : P_c_open s g its = some (openRes s g its) := by
 refine Ok.get ?_;unfold P_c_open openRes caseErr;refine .andx' (x := P_q_Check s g) rfl ?_;dsimp only
 by_cases h0 : (bookErr (bk s g)).2.2 = 0
 ·rw [if_pos h0];refine .ifn (fun h => h h0) (.andx' (x := P_q_Leaves s g) (a := (leavesOf (bk s g), 0)) (by unfold P_q_Leaves; rw [if_pos h0, h0]) ?_);dsimp only
  have hlen := leaves_len (book_fits h0)
  have hmt := mates_ok (s := s) (g := g) h0;unfold lvs at hmt ⊢;generalize leavesOf (bk s g) = lv at hlen hmt
  by_cases h1 : 120 < lv.length
  ·rw [if_pos h1];exact .ifp (by omega) (.some (by simp))
  ·rw [if_neg h1];refine .ifn (by omega) ?_
   by_cases h2 : 120 < its.length
   ·rw [if_pos h2];exact .ifp (by omega) (.some (by simp))
   ·rw [if_neg h2];refine .ifn (by omega) (Ok.seqx (Ok.count id its.length (fun k _ => itemsErr lv.length 0 its = itemsErr lv.length k (its.drop k)) rfl rfl ?_ ?_))
    ·rintro k i hk hi hI;simp only [id] at hi;subst hi;unfold P_c_open_L1;refine .ifp (by omega) (Ok.seqx (.el (by omega) fun x hx => ?_))
     have hx := get_of hx rfl;rw [itemsErr_drop hx] at hI
     have key : ∀ e : Int, itemErr x.could.l lv.length = e → e ≠ 0 → (Sum.inl (2, (k : Int), e) : Sum (Int × Int × Int) (Int × (GS encL) × (List Int) × Int × Int × Int)) = (if (match itemsErr lv.length 0 its with | some (i, e) => ((2 : Int), (i : Int), e) | none => match doubtsErr 0 0 its with | some i => (3, (i : Int), 3) | none => (0, 0, 0)).2.2 = 0 then .inr (s, GSo true encL lv, matesOf s g, 0, 0, 0) else .inl (match itemsErr lv.length 0 its with | some (i, e) => ((2 : Int), (i : Int), e) | none => match doubtsErr 0 0 its with | some i => (3, (i : Int), 3) | none => (0, 0, 0))) := by
      intro e he h;rw [he, if_neg h] at hI;rw [hI];simp [h]
     unfold itemErr at hI key;refine .ite (fun hc => ?_) (fun hc => ?_)
     ·exact .some (key 3 (by rw [if_pos (by omega)]) (by omega))
     ·rw [if_neg (by omega : ¬ 4 < x.could.l.length)] at hI key;refine .chk (i64_small (by omega)) (.andx' (outside_ok (by omega)) ?_);refine .ite (fun hd => ?_) (fun hd => ?_)
      ·exact .some (key 4 (by rw [if_pos (by simpa using hd)]) (by omega))
      ·have hd' : ¬ ∃ n ∈ x.could.l, n < 0 ∨ (lv.length : Int) - 1 < n := by simpa using hd
       rw [if_neg hd'] at hI key;refine order_ok (by omega) (fun hb => ?_) (fun hb => ?_)
       ·exact key 2 (by rw [if_pos hb]) (by omega)
       ·rw [if_neg hb, if_pos rfl] at hI
        show Ok _ _;exact .chk (i64_small (by omega)) (.some ⟨rfl, hI⟩)
    ·rintro i hi hI;simp only [id] at hi;subst hi;unfold P_c_open_L1;rw [List.drop_length] at hI;refine .ifn (by omega) (.some ?_)
     show Ok _ _;rw [hI];simp only [itemsErr];refine Ok.seqx (Ok.count (σ := Int × Int) Prod.snd its.length (fun k s => ∃ d : Nat, s.1 = d ∧ d ≤ 3 ∧ doubtsErr 0 0 its = doubtsErr d k (its.drop k)) rfl ⟨0, rfl, by omega, rfl⟩ ?_ ?_)
     ·rintro k ⟨dd, i⟩ hk hi ⟨d, hd, hd3, hI⟩;simp only at hi hd;subst hi hd;unfold P_c_open_L3;refine .ifp (by omega) (Ok.seqx (.el (by omega) fun x hx => ?_))
      have hx := get_of hx rfl;rw [doubtsErr_drop hx] at hI;refine Ok.andx (P := fun j => j = ((if 1 < x.could.l.length then d + 1 else d : Nat) : Int)) ?_ ?_
      ·refine .ite (fun hc => .chk (i64_small (by omega)) (.some ?_)) (fun hc => .some ?_)
       ·rw [if_pos (by omega)]; rfl
       ·rw [if_neg (by omega)]
      ·rintro j rfl;generalize (if 1 < x.could.l.length then d + 1 else d) = e at hI;refine .ite (fun hc => ?_) (fun hc => ?_)
       ·rw [if_pos (by omega)] at hI;refine .some ?_
        show _ = _;rw [hI];simp
       ·rw [if_neg (by omega)] at hI;refine .some ?_
        show Ok _ _;exact .chk (i64_small (by omega)) (.some ⟨rfl, e, rfl, by omega, hI⟩)
     ·rintro ⟨dd, i⟩ hi ⟨d, hd, hd3, hI⟩;simp only at hi hd;subst hi hd;unfold P_c_open_L3;rw [List.drop_length] at hI;refine .ifn (by omega) (.some ?_)
      show Ok _ _;rw [hI];refine .andx' (hmt (by omega)) (.some ?_);simp [doubtsErr]
 ·rw [if_neg h0];exact .ifp h0 (.some (by rw [if_neg h0]))
end Go.Am
end
section
namespace Go.Am
theorem doubts_le : ∀ (l : List Item) (d i : Nat), d ≤ 3 → doubtsErr d i l = none → d + l.countP (fun x => decide (1 < x.could.l.length)) ≤ 3 := by
 intro l
 induction l with
 | nil => intro d i hd _; simpa using hd
 | cons x l ih =>
  intro d i hd h;unfold doubtsErr at h;rw [List.countP_cons]
  by_cases hx : 1 < x.could.l.length
  ·simp only [hx, if_true, decide_true] at h ⊢;split at h
   ·cases h
   ·have := ih _ _ (by omega) h;omega
  ·simp only [hx, if_false, decide_false] at h ⊢;split at h
   ·cases h
   ·have := ih _ _ (by omega) h
    simpa using this
theorem items_ok {n : Int} : ∀ (l : List Item) (i : Nat), itemsErr n i l = none → ∀ x ∈ l, itemErr x.could.l n = 0 := by
 intro l
 induction l with
 | nil => intro i _ x hx; simp at hx
 | cons a l ih =>
  intro i h x hx;unfold itemsErr at h;split at h
  ·rename_i h0
   rcases List.mem_cons.1 hx with rfl | hx
   ·exact h0
   ·exact ih _ h x hx
  ·cases h
theorem item_facts {l : List Int} {n : Int} (h : itemErr l n = 0) : l.length ≤ 4 ∧ (∀ x ∈ l, 0 ≤ x ∧ x ≤ n - 1) ∧ ¬ BadOrder l := by
 unfold itemErr at h;split at h
 ·omega
 ·split at h
  ·omega
  ·rename_i h1 h2
   split at h
   ·omega
   ·rename_i h3
    refine ⟨by omega, fun x hx => ?_, h3⟩
    have : ¬ (x < 0 ∨ n - 1 < x) := fun k => h2 ⟨x, hx, k⟩
    omega
def wid : List Item → Nat
 | [] => 1
 | x :: l => (chs x).length * wid l
theorem comps_len : ∀ (l : List Item) (p : List Int), (comps p l).length = wid l := by
 intro l
 induction l with
 | nil => intro p; rfl
 | cons x l ih =>
  intro p;unfold comps wid;rw [List.length_flatMap]
  have : ((chs x).map fun c => (comps (p ++ [c]) l).length) = (chs x).map fun _ => wid l := by simp [ih]
  rw [this];simp [List.map_const', List.sum_replicate_nat]
theorem chs_len (x : Item) (h : x.could.l.length ≤ 4) : 1 ≤ (chs x).length ∧ (chs x).length ≤ 4 ∧ (1 < (chs x).length ↔ 1 < x.could.l.length) := by
 unfold chs
 by_cases h0 : x.could.l = []
 ·rw [if_pos h0]; simp [h0]
 ·rw [if_neg h0]
  have : x.could.l.length ≠ 0 := fun e => h0 (List.eq_nil_of_length_eq_zero e)
  omega
theorem wid_le : ∀ (l : List Item), (∀ x ∈ l, x.could.l.length ≤ 4) → 1 ≤ wid l ∧ wid l ≤ 4 ^ l.countP (fun x => decide (1 < x.could.l.length)) := by
 intro l
 induction l with
 | nil => intro _; simp [wid]
 | cons x l ih =>
  intro h
  have hx := chs_len x (h x (by simp));obtain ⟨h1, h2⟩ := ih fun y hy => h y (by simp [hy])
  unfold wid;rw [List.countP_cons];refine ⟨Nat.mul_pos hx.1 h1, ?_⟩
  by_cases hc : 1 < x.could.l.length
  ·simp only [hc, decide_true, if_true, Nat.pow_succ];rw [Nat.mul_comm];exact Nat.mul_le_mul h2 hx.2.1
  ·have : (chs x).length = 1 := by have := hx.2.2; omega
   simp only [hc, decide_false, this]
   simpa using h2
def lev : List (List Int) → List Item → List (List Int)
 | out, [] => out
 | out, x :: l => lev (out.flatMap fun o => (chs x).map fun c => o ++ [c]) l
theorem lev_comps : ∀ (l : List Item) (out : List (List Int)), lev out l = out.flatMap fun o => comps o l := by
 intro l
 induction l with
 | nil => intro out; simp [lev, comps]
 | cons x l ih =>
  intro out;unfold lev;rw [ih, List.flatMap_assoc]
  congr 1
  funext o
  rw [List.flatMap_map];rfl
theorem lev_snoc : ∀ (l : List Item) (out : List (List Int)) (x : Item), lev out (l ++ [x]) = (lev out l).flatMap fun o => (chs x).map fun c => o ++ [c] := by
 intro l
 induction l with
 | nil => intro out x; rfl
 | cons y l ih => intro out x; exact ih _ x
theorem truths_lev (l : List Item) : lev [[]] l = truthsOf l := by rw [lev_comps]; simp [truthsOf]
theorem comps_each : ∀ (l : List Item) (p t : List Int), t ∈ comps p l → t.length = p.length + l.length := by
 intro l
 induction l with
 | nil => intro p t h; simp [comps] at h; simp [h]
 | cons x l ih =>
  intro p t h;unfold comps at h;obtain ⟨c, _, hc⟩ := List.mem_flatMap.1 h
  have := ih _ _ hc;simp at this ⊢;omega
theorem lev_each {l : List Item} {t : List Int} (h : t ∈ lev [[]] l) : t.length = l.length := by
 rw [truths_lev] at h
 simpa using comps_each l [] t h
theorem one_row {could : List Int} {o : List Int} {body : Int × List (List Int) → Option (Stp (Int × List (List Int)) (List (List Int)))} (hb : ∀ (n : Nat) (next : List (List Int)), next.length ≤ 1000000 → (∀ a, could[n]? = some a → body (n, next) = some (.ag ((n : Int) + 1, next ++ [o ++ [a]]))) ∧ (could[n]? = none → body (n, next) = some (.dn next)))
  {next : List (List Int)} (hn : next.length + could.length ≤ 1000000) : iter body (0, next) = some (next ++ could.map fun c => o ++ [c]) := by
 refine Ok.get (Ok.count (σ := Int × List (List Int)) Prod.fst could.length (fun k s => s.2 = next ++ (could.take k).map fun c => o ++ [c]) rfl (by simp) ?_ ?_)
 ·rintro k ⟨i, nx⟩ hk hi hx;simp only at hi hx;subst hi hx
  have e := List.getElem?_eq_getElem hk;refine .eq ((hb k _ (by simp; omega)).1 _ e) ⟨rfl, ?_⟩
  show _ = next ++ (could.take (k + 1)).map fun c => o ++ [c]
  rw [take_snoc e, List.map_append, ← List.append_assoc];rfl
 ·rintro ⟨i, nx⟩ hi hx;simp only at hi hx;subst hi hx;refine .eq ((hb could.length _ (by simp; omega)).2 (List.getElem?_eq_none (Nat.le_refl _))) ?_
  show _ = _;rw [List.take_length]
theorem all_rows {could : List Int} {out : List (List Int)} {body : Int × List (List Int) → Option (Stp (Int × List (List Int)) (List (List Int)))} (hb : ∀ (k : Nat) (next : List (List Int)), next.length + could.length ≤ 1000000 → (∀ o, out[k]? = some o → body (k, next) = some (.ag ((k : Int) + 1, next ++ could.map fun c => o ++ [c]))) ∧ (out[k]? = none → body (k, next) = some (.dn next)))
  (hn : (out.length + 1) * could.length ≤ 1000000) : iter body (0, []) = some (out.flatMap fun o => could.map fun c => o ++ [c]) := by
 have hlen : ∀ k, k ≤ out.length → ((out.take k).flatMap fun o => could.map fun c => o ++ [c]).length = k * could.length := by
  intro k hk;rw [List.length_flatMap]
  have : ((out.take k).map fun o => (could.map fun c => o ++ [c]).length) = (out.take k).map fun _ => could.length := by simp
  rw [this];simp [List.map_const', List.sum_replicate_nat, Nat.min_eq_left hk]
 refine Ok.get (Ok.count (σ := Int × List (List Int)) Prod.fst out.length (fun k s => s.2 = (out.take k).flatMap fun o => could.map fun c => o ++ [c]) rfl (by simp) ?_ ?_)
 ·rintro k ⟨i, nx⟩ hk hi hx;simp only at hi hx;subst hi hx
  have e := List.getElem?_eq_getElem hk
  have hb1 : k * could.length + could.length ≤ (out.length + 1) * could.length := by
   rw [← Nat.succ_mul]; exact Nat.mul_le_mul_right _ (by omega)
  refine .eq ((hb k _ (by rw [hlen k (by omega)]; omega)).1 _ e) ⟨rfl, ?_⟩
  show _ = (out.take (k + 1)).flatMap _;rw [take_snoc e, List.flatMap_append];simp
 ·rintro ⟨i, nx⟩ hi hx;simp only at hi hx;subst hi hx
  have hb1 : out.length * could.length + could.length = (out.length + 1) * could.length := (Nat.succ_mul _ _).symm;refine .eq ((hb out.length _ (by rw [hlen _ (Nat.le_refl _)]; omega)).2 (List.getElem?_eq_none (Nat.le_refl _))) ?_
  show _ = _;rw [List.take_length]
end Go.Am
end
section
namespace Go.Am
set_option linter.unusedVariables false
structure GoodCase (s : Int) (g : List Gat) (its : List Item) : Prop where
 b0 : (bookErr (bk s g)).2.2 = 0
 nl : (lvs s g).length ≤ 120
 il : its.length ≤ 120
 few : ∀ x ∈ its, x.could.l.length ≤ 4
 rng : ∀ x ∈ its, ∀ n ∈ x.could.l, 0 ≤ n ∧ n ≤ ((lvs s g).length : Int) - 1
 dbt : its.countP (fun x => decide (1 < x.could.l.length)) ≤ 3
theorem case_good {s : Int} {g : List Gat} {its : List Item} (h : (caseErr s g its).2.2 = 0) : GoodCase s g its := by
 unfold caseErr at h
 by_cases hb : (bookErr (bk s g)).2.2 = 0
 ·rw [if_pos hb] at h
  by_cases h1 : 120 < (leavesOf (bk s g)).length
  ·rw [if_pos h1] at h; simp at h
  ·rw [if_neg h1] at h
   by_cases h2 : 120 < its.length
   ·rw [if_pos h2] at h; simp at h
   ·rw [if_neg h2] at h;split at h
    ·rename_i i e he
     exact absurd h (itemsErr_pos _ _ _ _ he)
    ·rename_i he
     split at h
     ·simp at h
     ·rename_i hd
      have hi := fun x hx => item_facts (items_ok _ _ he x hx)
      exact ⟨hb, by unfold lvs; omega, by omega, fun x hx => (hi x hx).1, fun x hx => (hi x hx).2.1, by simpa using doubts_le _ _ _ (by omega) hd⟩
 ·rw [if_neg hb] at h; exact absurd h hb
theorem GoodCase.wid {s : Int} {g : List Gat} {its : List Item} (h : GoodCase s g its) : Go.Am.wid its ≤ 64 :=
 Nat.le_trans (wid_le _ h.few).2 (Nat.le_trans (Nat.pow_le_pow_right (by omega) h.dbt) (by decide))
theorem GoodCase.take {s : Int} {g : List Gat} {its : List Item} (h : GoodCase s g its) (k : Nat) : GoodCase s g (its.take k) :=
  ⟨h.b0, h.nl, Nat.le_trans (by rw [List.length_take]; omega) h.il, fun x hx => h.few x (List.mem_of_mem_take hx), fun x hx => h.rng x (List.mem_of_mem_take hx),
    Nat.le_trans ((List.take_sublist k its).countP_le) h.dbt⟩
theorem lev_len (l : List Item) : (lev [[]] l).length = Go.Am.wid l := by rw [truths_lev]; exact comps_len l []
theorem el_eq {α β : Type} {l : List α} {k : Nat} {a : α} {c : α → Option β} (h : l[k]? = some a) : el l (k : Int) c = c a := by
 unfold el; rw [if_pos (by omega)]; simp only [Int.toNat_natCast, h]
theorem row3 {l9 : List (List Int)} {k : Nat} {o : List Int} (ho : l9[k]? = some o) (hl : o.length ≤ 1000000) (n : Nat) (next : List (List Int)) (hn : next.length ≤ 1000000) :
  (∀ a, [(-1 : Int)][n]? = some a → P_r4_All_L3 l9 k (n, next) = some (.ag ((n : Int) + 1, next ++ [o ++ [a]]))) ∧ ([(-1 : Int)][n]? = none → P_r4_All_L3 l9 k (n, next) = some (.dn next)) := by
 constructor
 ·intro a ha
  have hlt := (List.getElem?_eq_some_iff.1 ha).1
  have h1 : n < 1 := hlt;unfold P_r4_All_L3;dsimp only;rw [if_pos (by omega), el_eq ho, el_eq ha, chk_pos (by simp; omega), chk_pos (by simp; omega), chk_pos (by simp; omega), chk_pos (i64_small (by omega))];rfl
 ·intro hnone
  have := List.getElem?_eq_none_iff.1 hnone;unfold P_r4_All_L3;dsimp only;rw [if_neg (by omega)]
theorem row5 {l9 : List (List Int)} {it : Item} {k : Nat} {o : List Int} (ho : l9[k]? = some o) (hl : o.length ≤ 1000000) (hc : it.could.l.length ≤ 4) (n : Nat) (next : List (List Int)) (hn : next.length ≤ 1000000) :
  (∀ a, it.could.l[n]? = some a → P_r4_All_L5 l9 it k (n, next) = some (.ag ((n : Int) + 1, next ++ [o ++ [a]]))) ∧ (it.could.l[n]? = none → P_r4_All_L5 l9 it k (n, next) = some (.dn next)) := by
 constructor
 ·intro a ha
  have hlt := (List.getElem?_eq_some_iff.1 ha).1;unfold P_r4_All_L5;dsimp only;rw [if_pos (by omega), el_eq ho, el_eq ha, chk_pos (by simp; omega), chk_pos (by simp; omega), chk_pos (by simp; omega), chk_pos (i64_small (by omega))];rfl
 ·intro hnone
  have := List.getElem?_eq_none_iff.1 hnone;unfold P_r4_All_L5;dsimp only;rw [if_neg (by omega)]
theorem lvl2 {l9 : List (List Int)} (hl : l9.length ≤ 64) (ho : ∀ o ∈ l9, o.length ≤ 1000000) : iter (P_r4_All_L2 l9) (0, []) = some (l9.flatMap fun o => [(-1 : Int)].map fun c => o ++ [c]) := by
 refine all_rows (fun k next hn => ⟨fun o hk => ?_, fun hk => ?_⟩) (by simp; omega)
 ·have hlt := (List.getElem?_eq_some_iff.1 hk).1;unfold P_r4_All_L2;dsimp only;rw [if_pos (by omega), one_row (row3 hk (ho o (List.mem_of_getElem? hk))) hn];simp only [andx];rw [chk_pos (i64_small (by omega))]
 ·have := List.getElem?_eq_none_iff.1 hk;unfold P_r4_All_L2;dsimp only;rw [if_neg (by omega)]
theorem lvl4 {l9 : List (List Int)} {it : Item} (hl : l9.length ≤ 64) (ho : ∀ o ∈ l9, o.length ≤ 1000000) (hc : it.could.l.length ≤ 4) : iter (P_r4_All_L4 l9 it) (0, []) = some (l9.flatMap fun o => it.could.l.map fun c => o ++ [c]) := by
 have h65 : (l9.length + 1) * it.could.l.length ≤ 1000000 := Nat.le_trans (Nat.mul_le_mul (show l9.length + 1 ≤ 65 by omega) hc) (by decide);refine all_rows (fun k next hn => ⟨fun o hk => ?_, fun hk => ?_⟩) h65
 ·have hlt := (List.getElem?_eq_some_iff.1 hk).1;unfold P_r4_All_L4;dsimp only;rw [if_pos (by omega), one_row (row5 hk (ho o (List.mem_of_getElem? hk)) hc) hn];simp only [andx];rw [chk_pos (i64_small (by omega))]
 ·have := List.getElem?_eq_none_iff.1 hk;unfold P_r4_All_L4;dsimp only;rw [if_neg (by omega)]
theorem All_ok {s : Int} {g : List Gat} {its : List Item} (h : GoodCase s g its) : ∃ z, P_r4_All s g its = some (truthsOf its, z) := by
 have : Ok (iter (P_r4_All_L1 its) (0, [([] : List Int)], false)) fun r => r.1 = truthsOf its := by
  refine Ok.count (σ := Int × List (List Int) × Bool) Prod.fst its.length (fun k x => x.2.1 = lev [[]] (its.take k)) rfl (by simp [lev]) ?_ ?_
  ·rintro k ⟨i, l9, z⟩ hk hi hx;simp only at hi hx;subst hi hx
   have e := List.getElem?_eq_getElem hk
   have hm : its[k] ∈ its := List.getElem_mem hk
   have hL : (lev [[]] (its.take k)).length ≤ 64 := by rw [lev_len]; exact (h.take k).wid
   have hO : ∀ o ∈ lev [[]] (its.take k), o.length ≤ 1000000 := by
    intro o ho
    have h1 := lev_each ho
    have h2 : (its.take k).length ≤ 120 := (h.take k).il;omega
   unfold P_r4_All_L1;refine .ifp (by omega) ?_;rw [el_eq e]
   have hs : lev [[]] (its.take (k + 1)) = (lev [[]] (its.take k)).flatMap fun o => (chs its[k]).map fun c => o ++ [c] := by rw [take_snoc e, lev_snoc]
   refine Ok.andx' (a := lev [[]] (its.take (k + 1))) ?_ ?_
   ·by_cases hc : its[k].could.l = []
    ·rw [if_pos (by simp [hc]), lvl2 hL hO, hs];simp [andx, chs, hc]
    ·have : its[k].could.l.length ≠ 0 := fun e => hc (List.eq_nil_of_length_eq_zero e)
     rw [if_neg (by omega), lvl4 hL hO (h.few _ hm), hs];simp [andx, chs, hc]
   ·exact .chk (i64_small (by have := h.il; omega)) (.some ⟨rfl, rfl⟩)
  ·rintro ⟨i, l9, z⟩ hi hx;simp only at hi hx;subst hi hx;unfold P_r4_All_L1;refine .ifn (by omega) (.some ?_)
   show lev [[]] (its.take its.length) = _;rw [List.take_length, truths_lev]
 obtain ⟨⟨l, z⟩, h1, h2⟩ := this;refine ⟨z, ?_⟩;unfold P_r4_All;rw [h1];simp only [andx];rw [← h2]
theorem Mates_ok {s : Int} {g : List Gat} (h0 : (bookErr (bk s g)).2.2 = 0) (hl : (lvs s g).length ≤ 120) : P_r4_Mates s g = some (matesOf s g) := by
 have hf := book_fits h0;unfold P_r4_Mates P_r1_All;rw [chk_pos hf]
 show andx _ _ = _;simp only [andx]
 have : iter (P_r4_Mates_L1 s g (leavesOf (bk s g))) (0, []) = some (matesOf s g) := by
  refine Ok.get (Ok.count (σ := Int × List Int) Prod.fst (lvs s g).length (fun k x => x.2 = matesTo s g k) rfl rfl ?_ ?_)
  ·rintro k ⟨i, l⟩ hk hi hx;simp only at hi hx;subst hi hx;unfold P_r4_Mates_L1;refine .ifp (by unfold lvs at hk; omega) ?_;unfold P_r1_Pair;rw [chk_pos ⟨hf, by omega, by unfold lvs at hk; simpa using hk⟩];simp only [andx, Int.toNat_natCast];refine .chk (by rw [matesTo_len]; simp; omega) (.chk (i64_small (by omega)) (.some ⟨rfl, (matesTo_succ s g k).symm⟩))
  ·rintro ⟨i, l⟩ hi hx;simp only at hi hx;subst hi hx;unfold P_r4_Mates_L1;exact .ifn (by unfold lvs; omega) (.some rfl)
 rw [this]
end Go.Am
end
section
namespace Go.Am
set_option linter.unusedVariables false
structure GoodBook (s : Int) (g : List Gat) : Prop where
 b0 : (bookErr (bk s g)).2.2 = 0
 nl : (lvs s g).length ≤ 120
theorem GoodCase.book {s : Int} {g : List Gat} {its : List Item} (h : GoodCase s g its) : GoodBook s g := ⟨h.b0, h.nl⟩
theorem All1_ok {s : Int} {g : List Gat} (h : GoodBook s g) : P_r1_All s g = some (lvs s g) := by unfold P_r1_All; rw [chk_pos (book_fits h.b0)]; rfl
theorem has_ok {l : List Int} {n : Int} (h : l.length ≤ 1000000) : P_r1_Has l n = some (decide (n ∈ l)) := by unfold P_r1_Has; rw [chk_pos (by omega)]
theorem Gone_ok {s : Int} {g : List Gat} {t : List Int} (h : GoodBook s g) (ht : t.length ≤ 1000000) : P_r4_Gone s g t = some (lostOf (lvs s g).length t) := by
 refine Ok.get ?_;unfold P_r4_Gone;refine .andx' (All1_ok h) ?_
 have hl := h.nl;refine Ok.andx (P := fun l => l = lostOf (lvs s g).length t) (Ok.count Prod.fst (lvs s g).length (fun k s => s.2 = lostOf k t) rfl rfl ?_ ?_) fun _ h => .some h
 ·rintro k ⟨x, l⟩ hk hx hl';simp only at hx hl';subst hx hl'
  have hlen := lostOf_len k t;unfold P_r4_Gone_L1;refine .ifp (by omega) (Ok.andx (P := fun l => l = lostOf (k + 1) t) ?_ ?_)
  ·refine .andx' (has_ok ht) ?_;refine .ite (fun hc => ?_) (fun hc => ?_)
   ·refine .some ?_
    show _ = _;rw [lostOf_succ, if_neg (fun h => h (of_decide_eq_true hc))]
   ·refine .chk (by simp; omega) (.some ?_)
    show _ = _;rw [lostOf_succ, if_pos (fun h => hc (decide_eq_true h))]
  ·rintro l' rfl;exact .chk (i64_small (by omega)) (.some ⟨rfl, rfl⟩)
 ·rintro ⟨x, l⟩ hx hl';simp only at hx hl';unfold P_r4_Gone_L1;exact .ifn (by omega) (.some hl')
theorem mates_len (s : Int) (g : List Gat) : (matesOf s g).length = (lvs s g).length := matesTo_len _ _ _
theorem Pieces_ok {s : Int} {g : List Gat} {gone : List Int} (h : GoodBook s g) (hr : ∀ x ∈ gone, 0 ≤ x ∧ x < (lvs s g).length) (hl : gone.length ≤ 1000000) : P_r4_Pieces s g gone = some (piecesOf (matesOf s g) gone) := by
 refine Ok.get ?_;unfold P_r4_Pieces;refine .andx' (Mates_ok h.b0 h.nl) ?_
 have hml := mates_len s g;generalize matesOf s g = mt at *;refine Ok.andx (P := fun l => l = piecesOf mt gone) (Ok.count (fun s => s.2) gone.length (fun k (s : Int × Int) => s.1 = (((gone.take k).countP (isPiece mt gone) : Nat) : Int)) rfl rfl ?_ ?_) fun _ h => .some h
 ·rintro k ⟨n, x⟩ hk hx hn;simp only at hx hn;subst hx hn
  have hcl := List.countP_le_length (p := isPiece mt gone) (l := gone.take k)
  have htl : (gone.take k).length ≤ 1000000 := by rw [List.length_take]; omega
  unfold P_r4_Pieces_L1;refine .ifp (by omega) (Ok.andx (P := fun l => l = (((gone.take (k + 1)).countP (isPiece mt gone) : Nat) : Int)) ?_ ?_)
  ·refine .el (by omega) fun a ha => ?_
   have ha := get_of ha rfl
   have har := hr a (List.mem_of_getElem? ha);refine .el (by rw [hml]; exact har) fun b hb => ?_
   have hmf : mateF mt a = b := by unfold mateF; rw [hb]
   have hcp : (gone.take (k + 1)).countP (isPiece mt gone) = (gone.take k).countP (isPiece mt gone) + (if isPiece mt gone a = true then 1 else 0) := by
    rw [take_snoc ha, List.countP_append, List.countP_singleton]
   refine Ok.andx (P := fun c : Bool => c = true ↔ isPiece mt gone a = true) ?_ ?_
   ·unfold isPiece;rw [hmf, decide_eq_true_iff];refine .ite (fun h => .some ?_) (fun h => ?_)
    ·simp only [true_iff]; exact .inl h
    ·refine .el (by omega) fun a' ha' => ?_
     have ha' := get_of ha' rfl;rw [ha] at ha';cases ha';refine .ite (fun h2 => .some ?_) (fun h2 => ?_)
     ·simp only [true_iff]; exact .inr (.inl h2)
     ·refine .andx' (has_ok hl) (.some ?_);simp only [Bool.not_eq_true', decide_eq_false_iff_not];exact ⟨fun h3 => .inr (.inr h3), fun h3 => h3.elim (fun h3 => absurd h3 h) fun h3 => h3.elim (fun h3 => absurd h3 h2) fun h3 => h3⟩
   ·rintro c hcc;refine .ite (fun h => ?_) (fun h => ?_)
    ·refine .chk (i64_small (by omega)) (.some ?_);rw [hcp, if_pos (hcc.1 h)];rfl
    ·refine .some ?_;rw [hcp, if_neg (fun e => h (hcc.2 e))];rfl
  ·rintro c rfl;exact .chk (i64_small (by omega)) (.some ⟨rfl, rfl⟩)
 ·rintro ⟨n, x⟩ hx hn;simp only at hx hn;unfold P_r4_Pieces_L1;refine .ifn (by omega) (.some ?_)
  show n = _;rw [hn, List.take_length]; rfl
def plainOf (t : List Int) : List Int := idxTo (isPlain t) t t.length
theorem Plain_ok {t : List Int} (ht : t.length ≤ 1000000) : P_r4_Plain t = some (plainOf t) := by
 refine Ok.get ?_;unfold P_r4_Plain;refine Ok.andx (P := fun l => l = plainOf t) (Ok.count Prod.fst t.length (fun k s => s.2 = idxTo (isPlain t) t k) rfl rfl ?_ ?_) fun _ h => .some h
 ·rintro k ⟨x, l⟩ hk hx hl';simp only at hx hl';subst hx hl'
  have hlen := idxTo_len (isPlain t) t k;unfold P_r4_Plain_L1;refine .ifp (by omega) (Ok.andx (P := fun l => l = idxTo (isPlain t) t (k + 1)) ?_ ?_)
  ·have hn : t[k]? = some t[k] := List.getElem?_eq_getElem hk;generalize t[k] = n at hn;rw [idxTo_succ hn];refine Ok.andx (P := fun b : Bool => b = isPlain t k n) ?_ ?_
   ·refine .el (by omega) fun a ha => ?_
    have ha := get_of ha rfl;rw [hn] at ha;cases ha;refine .ite (fun h0 => ?_) (fun h0 => ?_)
    ·refine .chk (by omega) (.el (by omega) fun a ha => ?_)
     have ha := get_of ha rfl;rw [hn] at ha;cases ha
     have e : (List.take ((k : Int) - 0).toNat (List.drop (0 : Int).toNat t)) = t.take k := by rw [show ((k : Int) - 0).toNat = k by omega]; rfl
     rw [e];refine .andx' (has_ok (by rw [List.length_take]; omega)) (.some ?_)
     show (!decide (n ∈ t.take k)) = decide (0 ≤ n ∧ n ∉ t.take k)
     by_cases hm : n ∈ t.take k <;> simp [hm]
     omega
    ·exact .some (decide_eq_false (fun h => h0 h.1)).symm
   ·rintro b rfl;refine .ite (fun h => ?_) (fun h => ?_)
    ·exact .chk (by simp; omega) (.some (by simp only [h, if_true]))
    ·exact .some (by simp only [h]; rfl)
  ·rintro l' rfl;exact .chk (i64_small (by omega)) (.some ⟨rfl, rfl⟩)
 ·rintro ⟨x, l⟩ hx hl';simp only at hx hl';unfold P_r4_Plain_L1;exact .ifn (by omega) (.some hl')
theorem mem_idxTo {p : Nat → Int → Bool} {t : List Int} {i : Nat} {n : Int} (hn : t[i]? = some n) : ∀ k, (i : Int) ∈ idxTo p t k ↔ i < k ∧ p i n = true := by
 intro k
 induction k with
 | zero => simp [idxTo]
 | succ k ih =>
  rw [idxTo, List.mem_append, ih]
  constructor
  ·rintro (⟨h1, h2⟩ | h)
   ·exact ⟨by omega, h2⟩
   ·split at h
    ·rename_i m hm
     split at h
     ·rename_i hp
      rw [List.mem_singleton] at h
      have : i = k := by omega
      subst this;rw [hn] at hm;cases hm;exact ⟨by omega, hp⟩
     ·cases h
    ·cases h
  ·rintro ⟨h1, h2⟩
   by_cases e : i = k
   ·subst e;rw [hn];simp only [h2, if_true];exact .inr (List.mem_singleton_self _)
   ·exact .inl ⟨by omega, h2⟩
theorem idxTo_nat {p : Nat → Int → Bool} {t : List Int} : ∀ k, ∀ x ∈ idxTo p t k, ∃ i : Nat, x = i ∧ i < k ∧ ∃ n, t[i]? = some n ∧ p i n = true := by
 intro k
 induction k with
 | zero => intro x h; cases h
 | succ k ih =>
  intro x h;rw [idxTo, List.mem_append] at h
  rcases h with h | h
  ·obtain ⟨i, h1, h2, h3⟩ := ih x h;exact ⟨i, h1, by omega, h3⟩
  ·split at h
   ·rename_i m hm
    split at h
    ·rename_i hp
     rw [List.mem_singleton] at h;exact ⟨k, h, by omega, m, hm, hp⟩
    ·cases h
   ·cases h
def tAt (t : List Int) (i : Int) : Int := match t[i.toNat]? with | some n => n | none => 0
def runsL (g : Int → Int) (t : List Int) (l : List Int) : List S_copy_run := l.foldl (fun l i => rnStep g l i (tAt t i)) []
theorem runsTo_L (g : Int → Int) (t : List Int) : ∀ k, runsTo g t k = runsL g t (idxTo (isPlain t) t k) := by
 intro k
 induction k with
 | zero => rfl
 | succ k ih =>
  rw [runsTo, idxTo];cases h : t[k]? with
  | none => simp only [List.append_nil]; exact ih
  | some n =>
   simp only;split
   ·rw [runsL, List.foldl_append, List.foldl_cons, List.foldl_nil]
    have e : tAt t k = n := by unfold tAt; rw [Int.toNat_natCast, h]
    rw [e, ih];rfl
   ·rw [List.append_nil]; exact ih
theorem rnStep_pos (g : Int → Int) (l : List S_copy_run) (i n : Int) : 1 ≤ (rnStep g l i n).length := by
 unfold rnStep;split
 ·rename_i r hr
  have := (List.getElem?_eq_some_iff.1 hr).1;split <;> simp <;> omega
 ·simp
theorem runsL_pos {g : Int → Int} {t : List Int} {l : List Int} (h : l ≠ []) : 1 ≤ (runsL g t l).length := by
 obtain ⟨a, b, rfl⟩ : ∃ a b, l = a ++ [b] := ⟨l.dropLast, l.getLast h, (List.dropLast_concat_getLast h).symm⟩;rw [runsL, List.foldl_append];exact rnStep_pos _ _ _ _
theorem runsL_ok {g : Int → Int} {t : List Int} {N : Nat} : ∀ (l : List Int), (∀ i ∈ l, 0 ≤ tAt t i ∧ tAt t i < N) → (∀ r ∈ runsL g t l, RunOk N r) ∧ (runsL g t l).length ≤ l.length := by
 intro l
 suffices h : ∀ (l : List Int) (acc : List S_copy_run), (∀ i ∈ l, 0 ≤ tAt t i ∧ tAt t i < N) → (∀ r ∈ acc, RunOk N r) → (∀ r ∈ l.foldl (fun l i => rnStep g l i (tAt t i)) acc, RunOk N r) ∧ (l.foldl (fun l i => rnStep g l i (tAt t i)) acc).length ≤ acc.length + l.length by
  intro hl
  have := h l [] hl (by simp);exact ⟨this.1, Nat.le_trans this.2 (by simp)⟩
 intro l
 induction l with
 | nil => intro acc _ h; exact ⟨h, Nat.le_refl _⟩
 | cons i l ih =>
  intro acc h1 h2
  have h3 := ih (rnStep g acc i (tAt t i)) (fun j hj => h1 j (List.mem_cons_of_mem _ hj)) (rnStep_ok h2 (h1 i List.mem_cons_self));refine ⟨h3.1, ?_⟩
  have := rnStep_len (g := g) (l := acc) (i := i) (n := tAt t i);rw [List.foldl_cons, List.length_cons];omega
def toC (r : S_duodecimoref04_Run) : S_copy_run := ⟨r.item, r.first, r.last⟩
theorem Runs_ok {s : Int} {g : List Gat} {t : List Int} (h : GoodBook s g) (ht : t.length ≤ 120) (hin : TruthIn (lvs s g).length t) :
    ∃ rs, P_r4_Runs s g t = some rs ∧ rs.map toC = runsOf (gathOf (lvs s g)) t := by
  suffices k : Ok (P_r4_Runs s g t) (fun rs => rs.map toC = runsOf (gathOf (lvs s g)) t) from k
  unfold P_r4_Runs
  refine .andx' (All1_ok h) (.andx' (Plain_ok (by omega)) ?_)
  generalize hlv : lvs s g = lv at *
  have hpl : (plainOf t).length ≤ t.length := idxTo_len _ _ _
  have hpn : ∀ i ∈ plainOf t, ∃ j : Nat, i = j ∧ j < t.length ∧ ∃ n, t[j]? = some n ∧ isPlain t j n = true := idxTo_nat t.length
  have hat : ∀ i ∈ plainOf t, 0 ≤ tAt t i ∧ tAt t i < lv.length := fun i hi => by
    obtain ⟨j, rfl, hj, n, hn, hp⟩ := hpn i hi
    have e : tAt t j = n := by unfold tAt; rw [Int.toNat_natCast, hn]
    rw [e]
    exact ⟨(of_decide_eq_true hp).1, hin n (List.mem_of_getElem? hn)⟩
  unfold runsOf
  rw [runsTo_L]
  show Ok _ (fun rs : List S_duodecimoref04_Run => rs.map toC = runsL (gathOf lv) t (plainOf t))
  refine Ok.andx (P := fun rs : List S_duodecimoref04_Run => rs.map toC = runsL (gathOf lv) t (plainOf t)) (Ok.count Prod.fst (plainOf t).length (fun k s => s.2.map toC = runsL (gathOf lv) t ((plainOf t).take k)) rfl rfl ?_ ?_) fun _ h => .some h
  · rintro k ⟨x, out⟩ hk hx ho
    simp only at hx ho
    subst hx
    have hi : (plainOf t)[k]? = some (plainOf t)[k] := List.getElem?_eq_getElem hk
    generalize (plainOf t)[k] = i at hi
    have him := List.mem_of_getElem? hi
    obtain ⟨j, rfl, hj, n, hn, hp⟩ := hpn i him
    have e : tAt t j = n := by unfold tAt; rw [Int.toNat_natCast, hn]
    have hnr := hat j him
    rw [e] at hnr
    have hro := runsL_ok (g := gathOf lv) (t := t) (N := lv.length) ((plainOf t).take k) fun i hi => hat i (List.mem_of_mem_take hi)
    rw [← ho, List.length_map, List.length_take] at hro
    have hstep : runsL (gathOf lv) t ((plainOf t).take (k + 1)) = rnStep (gathOf lv) (out.map toC) j n := by
      rw [take_snoc hi, runsL, List.foldl_append, List.foldl_cons, List.foldl_nil, e, ho]
      rfl
    have hget : ∀ r, out[out.length - 1]? = some r → (out.map toC)[(out.map toC).length - 1]? = some (toC r) := fun r hr => by rw [List.length_map, List.getElem?_map, hr]; rfl
    unfold P_r4_Runs_L1
    refine .ifp (by omega) (Ok.andx (P := fun o : List S_duodecimoref04_Run => o.map toC = runsL (gathOf lv) t ((plainOf t).take (k + 1))) ?_ ?_)
    · rw [hstep]
      refine .el (by omega) fun a ha => ?_
      have ha := get_of ha rfl
      rw [hi] at ha
      cases ha
      refine .el (by omega) fun b hb => ?_
      have hb := get_of hb rfl
      rw [hn] at hb
      cases hb
      refine Ok.seqx ?_
      have happ : rnStep (gathOf lv) (out.map toC) j n = (out.map toC) ++ [⟨j, n, n⟩] → OkX (fun x : Unit => el (plainOf t) (k : Int) fun a63 => chk (out.length + [(⟨a63, n, n⟩ : S_duodecimoref04_Run)].length < 1000000000) (some (out ++ [(⟨a63, n, n⟩ : S_duodecimoref04_Run)]))) (fun o => o.map toC = rnStep (gathOf lv) (out.map toC) j n) (Ex.nx ()) := fun e => by
        show Ok _ _
        refine .el (by omega) fun a ha => ?_
        have ha := get_of ha rfl
        rw [hi] at ha
        cases ha
        refine .chk (by simp; omega) (.some ?_)
        rw [e, List.map_append]
        rfl
      refine .ite (fun hk0 => ?_) (fun hk0 => ?_)
      · have hpos : 1 ≤ out.length := by
          have := runsL_pos (g := gathOf lv) (t := t) (l := (plainOf t).take k) (fun e => by
            have := congrArg List.length e
            rw [List.length_take, List.length_nil] at this
            omega)
          rw [← ho, List.length_map] at this
          exact this
        refine .chk (i64_small (by omega)) (.el (by omega) fun r hr => ?_)
        have hr : out[out.length - 1]? = some r := get_of hr (by omega)
        have hr2 := hget r hr
        have hrk := hro.1 (toC r) (List.mem_map_of_mem (List.mem_of_getElem? hr))
        refine Ok.andx (P := fun b : Bool => b = true ↔ (r.last < n ∧ gathOf lv r.last = gathOf lv n)) ?_ ?_
        · refine .el ⟨hrk.2.2.1, hrk.2.2.2⟩ fun a ha => .el hnr fun b hb => ?_
          have ga : gathOf lv r.last = a.g := by unfold gathOf; rw [show lv[r.last.toNat]? = some a from ha]
          have gb : gathOf lv n = b.g := by unfold gathOf; rw [hb]
          rw [ga, gb]
          refine .ite (fun hc => .some ?_) (fun hc => .some ?_)
          · rw [decide_eq_true_iff]; exact ⟨fun h => ⟨h, hc⟩, fun h => h.1⟩
          · simp [hc]
        · rintro b hb
          refine .ite (fun hc => ?_) (fun hc => ?_)
          · refine .chk (i64_small (by omega)) (.el (by omega) fun r' hr' => ?_)
            have hr' : out[out.length - 1]? = some r' := get_of hr' (by omega)
            rw [hr] at hr'
            cases hr'
            refine .some ?_
            show List.map toC _ = _
            unfold rnStep
            rw [hr2]
            simp only
            rw [if_pos (show (toC r).last < n ∧ gathOf lv (toC r).last = gathOf lv n from hb.1 hc), List.map_set, show ((out.length : Int) - 1).toNat = out.length - 1 by omega, List.length_map]
            rfl
          · refine .some (happ ?_)
            unfold rnStep
            rw [hr2]
            simp only
            rw [if_neg (show ¬ ((toC r).last < n ∧ gathOf lv (toC r).last = gathOf lv n) from fun h => hc (hb.2 h))]
      · refine .some (happ ?_)
        have : k = 0 := by omega
        subst this
        rw [List.take_zero] at ho
        rw [ho]
        rfl
    · rintro o ho'
      exact .chk (i64_small (by omega)) (.some ⟨rfl, ho'⟩)
  · rintro ⟨x, out⟩ hx ho
    simp only at hx ho
    unfold P_r4_Runs_L1
    refine .ifn (by omega) (.some ?_)
    show out.map toC = _
    rw [ho, List.take_length]
end Go.Am
end
