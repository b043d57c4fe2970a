/- Part 5. -/
import Derived.Test.YthckcbfijdambaaGreatCopyFaultsP4
import Derived.Test.YthckcbfijdambaaGreatCopyFaultsP2
import Derived.ChangeArms
import Derived.ChangeSlices
import Derived.OpenShut
import Derived.Test.YthckcbfijdambaaGreatRows
import Derived.ProofKit
import Derived.Test.YthckcbfijdambaaGreatCopyFaultsP3
import Derived.WalkKit
import Derived.ChangeOld
import Derived.Below
import Derived.Carry
section
namespace Go.Am.YthckcbfijdambaaGreat
open Go.Am Go.RowKit
set_option linter.unusedVariables false
set_option linter.unusedSimpArgs false
set_option maxRecDepth 10000 in
theorem tf_c_Bound {k : Nat} (hk : 6 ≤ k) {C : List Thing} {c_Book_Signed : Int} {v_c_Book_Gatherings : AV} {c_Book_Gatherings : List Gat} {v_c_Items : AV} {c_Items : List Item} (ht_c_Book_Gatherings : RdT encG v_c_Book_Gatherings c_Book_Gatherings) (ht_c_Items : RdT encIt v_c_Items c_Items) {r : (List Int) × Int} (h : P_c_Bound c_Book_Signed c_Book_Gatherings c_Items = some r) :
  TF (EL k) 32 [.agg [iv (c_Book_Signed), v_c_Book_Gatherings, v_c_Items]] C (RepF (fun (w : AV) => .tuple [w, iv r.2]) (fun (w : AV) => ownL true w encI r.1 :: C)) := by
 unfold P_c_Bound at h
 have h_c_Book_Gatherings : Rdl C encG v_c_Book_Gatherings c_Book_Gatherings := RdT.rdl ht_c_Book_Gatherings
 have h_c_Items : Rdl C encIt v_c_Items c_Items := RdT.rdl ht_c_Items;refine TF.enter (fn := Go.Proofs.Tryz.f32) rfl rfl rfl rfl rfl (zU rfl (zQ 3 [_,_,_] R7 (fun b1=>zA R4 (zA R4 (zN (zU rfl (zV R3 (vW 0 [_,_,_] R5 R4) ?_)))))));obtain ⟨⟨y9, y9_2, y9_3, y9_4, y9_5, y9_6, y9_7, y9_8, y9_9, y9_10, y9_11, y9_12, y9_13⟩, hr9, h⟩ := andx_some h;dsimp only at h;obtain ⟨g, hgg, hrg⟩ := Rdl.reif (hs := .row b1 3 [iv (c_Book_Signed), v_c_Book_Gatherings, v_c_Items] :: C) h_c_Book_Gatherings M1 (ReifL.flat encG_tr);obtain ⟨g_2, hgg_2, hrg_2⟩ := Rdl.reif (hs := .row b1 3 [iv (c_Book_Signed), v_c_Book_Gatherings, v_c_Items] :: C) h_c_Items M1 (ReifL.flat encIt_tr);refine TO.call rfl rfl rfl rfl rfl (orcL rfl aD) (.cons (.agg (.cons .lit (.cons (hrg _) (.cons (hrg_2 _) .nil)))) .nil) (sem_of (w_c_Faults c_Book_Signed g g_2 _ (by try rw [hgg]; try rw [hgg_2]; exact hr9))) (zM R4 (zX R5 (zX R5 (zJ 7 [_,_,_,_,_,_,_] R7 (fun b4=>TO.eff0 rfl rfl (Eff.store_row (p := 0) (cv := [_, _, _, _, _, _, _]) (cells' := [_, _, _, _, _, _, _]) rfl rfl rfl rfl rfl rfl rfl rfl aG (by decide) rfl) ?_)))));rintro _ rfl;refine zG (_::_::C) rfl (zA R4 (zN (zS (zU rfl (zM R4 ?_)))));obtain ⟨c13, hc13⟩ := zY (¬ y9_13 = 0);refine zV R3 (Val.neq hc13 rfl rfl) (zN ?_);obtain ⟨rfl, hc13, h⟩ | ⟨rfl, hc13, h⟩ := zI hc13 h
 ·refine zC rfl (zU rfl (zM R4 (zA R4 (zA R4 (zN (T.nilown (u := encI.u) (zR ?_)))))));cases h;exact ⟨rfl, _, rfl, ⟨nilS, rfl, (pk [0,98,98] rfl)⟩⟩
 refine zD rfl (zK ?_)
 show T _ _ _ _ _ _;apply T.joinA (r := r) (W := AV) (fun j w => ⟨[], [(2, w), (4, .ptr b4 0 7)], ownL true w encI j :: .row b4 7 [(GSo y9_2 encI y9).v, (GSo y9_4 encI y9_3).v, iv (y9_5), (GSo y9_7 encI y9_6).v, (GSo y9_9 encI y9_8).v, (GSo y9_11 encI y9_10).v, iv (y9_12)] :: C⟩) h
 ·intro j h;refine zU rfl (zF 0 R6 (zL 0 R3 R6 (zV R3 (Val.len_gs rfl rfl) (zM R4 (zN (zB (T.nilown (u := encI.u) ?_)))))))
  show T _ _ _ _ _ _;apply T.iter (r := j) (W := AV) (fun j w => ⟨[], [(2, w), (4, .ptr b4 0 7), (16, (GSo y9_2 encI y9).v), (17, iv ((((GSo y9_2 encI y9).l).length : Int))), (18, iv (j.1))], ownL true w encI j.2 :: .row b4 7 [(GSo y9_2 encI y9).v, (GSo y9_4 encI y9_3).v, iv (y9_5), (GSo y9_7 encI y9_6).v, (GSo y9_9 encI y9_8).v, (GSo y9_11 encI y9_10).v, iv (y9_12)] :: C⟩) (w0 := nilS) h
  ·exact (sb (pk [0,0,98] rfl))
  rintro ⟨x18, items⟩ v4 a h;unfold P_c_Bound_L1 at h;dsimp only at h;dsimp only;refine zU rfl ?_;obtain ⟨c19, hc19⟩ := zY (x18 < (((GSo y9_2 encI y9).l).length : Int));refine zV R3 (Val.lss hc19 rfl rfl) (zN (zS ?_));obtain ⟨rfl, hc19, h⟩ | ⟨rfl, hc19, h⟩ := zI hc19 h
  ·refine zC rfl (zK ?_)
   show T _ _ _ _ _ _;apply T.joinA (r := a) (W := AV) (fun j w => ⟨[], [(2, w), (4, .ptr b4 0 7), (16, (GSo y9_2 encI y9).v), (17, iv ((((GSo y9_2 encI y9).l).length : Int))), (18, iv (x18))], ownL true w encI j :: .row b4 7 [(GSo y9_2 encI y9).v, (GSo y9_4 encI y9_3).v, iv (y9_5), (GSo y9_7 encI y9_6).v, (GSo y9_9 encI y9_8).v, (GSo y9_11 encI y9_10).v, iv (y9_12)] :: C⟩) h
   ·intro j h;refine zB (zU rfl (zM R4 ?_));obtain ⟨a21, hia21, ea21, h⟩ := el_some h;refine TO.fact (rdl_at (Rdl.gs (C := C) (GSo y9_2 encI y9)) M2 hia21 ea21) (fun hp=>?_);obtain ⟨pa21, hpa21, hva21⟩ := hp;refine zV R3 (hva21 ⟨rfl, rfl⟩ rfl rfl) (zV R3 (Val.load_e hpa21 M2 ⟨_, rfl, rfl⟩ rfl rfl) (zA R4 (zA R4 (zN ?_))))
    show T _ _ _ _ _ _;apply T.joinA (r := j) (W := Unit) (fun j w => ⟨[], [(2, v4), (4, .ptr b4 0 7), (5, iv (x18)), (16, (GSo y9_2 encI y9).v), (17, iv ((((GSo y9_2 encI y9).l).length : Int))), (18, iv (x18)), (31, bv j)], ownL true v4 encI items :: .row b4 7 [(GSo y9_2 encI y9).v, (GSo y9_4 encI y9_3).v, iv (y9_5), (GSo y9_7 encI y9_6).v, (GSo y9_9 encI y9_8).v, (GSo y9_11 encI y9_10).v, iv (y9_12)] :: C⟩) h
    ·intro j h;refine zT rfl (zM R4 ?_);obtain ⟨c24, hc24⟩ := zY (a21 ≥ 0);refine zV R3 (Val.geq hc24 rfl rfl) (zM R4 ?_);obtain ⟨rfl, hc24, h⟩ | ⟨rfl, hc24, h⟩ := zI hc24 h
     ·refine zF 4 R6 (zL 1 R3 R6 (zM R4 (TO.callIn rfl rfl rfl rfl rfl rfl (orcN rfl) (TF.enter (fn := Go.Proofs.Tryz.f59) rfl rfl rfl rfl rfl (zU rfl (zA R4 (zN (zU rfl (zM R4 (zM R4 ?_))))))))));refine TO.callJ (W := Unit) (fun (j : Int) (w : Unit) => iv (j)) (fun (j : Int) (w : Unit) => ownL true v4 encI items :: .row b4 7 [(GSo y9_2 encI y9).v, (GSo y9_4 encI y9_3).v, iv (y9_5), (GSo y9_7 encI y9_6).v, (GSo y9_9 encI y9_8).v, (GSo y9_11 encI y9_10).v, iv (y9_12)] :: C) h rfl rfl rfl rfl rfl rfl (orcN rfl) ?_ ?_
      ·intro j h;refine TF.enter (fn := Go.Proofs.Tryz.f79) rfl rfl rfl rfl rfl (zU rfl (zA R4 (zN ?_)))
       show T _ _ _ _ _ _;apply T.join (r := j) (W := Unit) (fun j w => ⟨[], [], ownL true v4 encI items :: .row b4 7 [(GSo y9_2 encI y9).v, (GSo y9_4 encI y9_3).v, iv (y9_5), (GSo y9_7 encI y9_6).v, (GSo y9_9 encI y9_8).v, (GSo y9_11 encI y9_10).v, iv (y9_12)] :: C⟩) h
       ·intro j h;refine zU rfl (zM R4 (zV R3 (Val.len_gs rfl rfl) (zM R4 (zN (zB ?_)))))
        show T _ _ _ _ _ _;apply T.iter (r := j) (W := Unit) (fun j w => ⟨[], [(0, (GSo y9_9 encI y9_8).v), (1, iv (x18)), (7, iv ((((GSo y9_9 encI y9_8).l).length : Int))), (8, iv (j))], ownL true v4 encI items :: .row b4 7 [(GSo y9_2 encI y9).v, (GSo y9_4 encI y9_3).v, iv (y9_5), (GSo y9_7 encI y9_6).v, (GSo y9_9 encI y9_8).v, (GSo y9_11 encI y9_10).v, iv (y9_12)] :: C⟩) (w0 := ()) h
        ·exact (sb .refl)
        rintro x8 _ a h;unfold P_c_Bound_L2 at h;refine zU rfl ?_;obtain ⟨c9, hc9⟩ := zY (x8 < (((GSo y9_9 encI y9_8).l).length : Int));refine zV R3 (Val.lss hc9 rfl rfl) (zN (zS ?_));obtain ⟨rfl, hc9, h⟩ | ⟨rfl, hc9, h⟩ := zI hc9 h
        ·refine zC rfl (zK (zS (zB (zU rfl (zM R4 (zA R4 (zN (zU rfl (zM R4 (zM R4 (zM R4 ?_)))))))))));obtain ⟨a14, hia14, ea14, h⟩ := el_some h;refine TO.fact (rdl_at (Rdl.gs (C := C) (GSo y9_9 encI y9_8)) M2 hia14 ea14) (fun hp=>?_);obtain ⟨pa14, hpa14, hva14⟩ := hp;refine zV R3 (hva14 ⟨rfl, rfl⟩ rfl rfl) (zV R3 (Val.load_e hpa14 M2 ⟨_, rfl, rfl⟩ rfl rfl) ?_);obtain ⟨c16, hc16⟩ := zY (x18 = a14);refine zV R3 (Val.eql hc16 rfl rfl) (zN ?_);obtain ⟨rfl, hc16, h⟩ | ⟨rfl, hc16, h⟩ := zI hc16 h
         ·refine zC rfl (zU rfl (zM R4 (zA R4 (zN (zR ?_)))));cases h;exact ⟨ret_ne, ⟨ret_ne, ⟨rfl, _, rfl, ⟨(), rfl, .refl⟩⟩⟩⟩
         refine zD rfl (zK (zT rfl ?_));obtain ⟨hk18, h⟩ := chk_some h;refine zV R3 (Val.add rfl rfl hk18) (zM R4 (zN ?_));cases h;exact ⟨rfl, (), (sb .refl)⟩
        refine zD rfl (zE ?_);cases h;exact ⟨ex_ne, ⟨rfl, (), (sb .refl)⟩⟩
       ·rintro _ _ h;refine zU rfl (zA R4 (zN (zR ?_)));cases h;exact ⟨rfl, _, rfl, ⟨(), rfl, .refl⟩⟩
      ·rintro y7 _ h;refine zG (_::_::C) rfl ?_;obtain ⟨c8, hc8⟩ := zY (y7 ≥ 0);refine zV R3 (Val.geq hc8 rfl rfl) (zA R4 (zN (zR ?_)));refine ⟨rfl, _, rfl, ?_⟩;refine zV R3 (Val.not rfl) (zP R6 (zN ?_));subst hc8;cases h;exact ⟨rfl, (), (sb .refl)⟩
     refine zO R3 (zO R3 (zO R3 (zO R3 (zO R3 (zP R6 (zN ?_))))));cases h;exact ⟨rfl, (), (sb .refl)⟩
    ·rintro x31 _ h;obtain ⟨rfl, h⟩ | ⟨rfl, h⟩ := zZ h
     ·refine zC rfl (zT rfl (zM R4 (zM R4 (TO.build1 (en := encI) (a := x18) rfl rfl rfl ⟨rfl, rfl⟩ ⟨_, rfl, rfl⟩ (by decide) (by decide) rfl rfl (fun v34=>?_)))));obtain ⟨hk35, h⟩ := chk_some h;refine TO.eff rfl rfl rfl (Eff.append_own (b := 8) (en := encI) (l := items) (l2 := [x18]) (p := 1) (q := 0) ⟨rfl, rfl, rfl, ⟨_, rfl, rfl⟩, by decide, by decide⟩ rfl rfl rfl rfl rfl rfl (flat_ones _) (by decide) hk35) ?_;rintro v35 _ rfl;refine zG (_::_::_::C) rfl (zA R4 (zN ?_));cases h;exact ⟨rfl, v35, (sb (pk [1,1,98] rfl))⟩
     refine zD rfl (zK ?_);cases h;exact ⟨rfl, v4, (sb .refl)⟩
   ·rintro items_2 v4_2 h;refine zT rfl ?_;obtain ⟨hk36, h⟩ := chk_some h;refine zV R3 (Val.add rfl rfl hk36) (zM R4 (zN ?_));cases h;exact ⟨rfl, v4_2, (sb .refl)⟩
  refine zD rfl (zE ?_);cases h;exact ⟨ex_ne, ⟨rfl, v4, (sb .refl)⟩⟩
 ·rintro items v4 h;refine zU rfl (zM R4 (zV R3 (Val.makeFunc rfl rfl) ?_));obtain ⟨hkS, h⟩ := chk_some h;refine TO.callT (first := []) (cap := []) (vs := [v4, .func 61 [] [.ptr b4 0 7]]) rfl rfl rfl rfl rfl rfl (orcN rfl) (TF.sortKey (E0 := env0) (p := 0) (key := keyAt ((GSo y9_2 encI y9).l)) (N := (((GSo y9_2 encI y9).l).length : Int)) rfl rfl hkS.1 ⟨_, rfl⟩ hkS.2.1 hkS.2.2.1 (fun _ x y a1 a2 a3 a4 => tf_c_Bound1 (Rdl.mono (Rdl.gs (C := C) (GSo y9_2 encI y9)) M2) (Rdl.mono (Rdl.gs (C := C) (GSo y9_4 encI y9_3)) M2) (Rdl.mono (Rdl.gs (C := C) (GSo y9_7 encI y9_6)) M2) (Rdl.mono (Rdl.gs (C := C) (GSo y9_9 encI y9_8)) M2) (Rdl.mono (Rdl.gs (C := C) (GSo y9_11 encI y9_10)) M2) (List.mem_of_getElem? (i := 1) rfl) (c_Bound1_ok hkS a1 a2 a3 a4))) ?_;rintro _;refine zG (_::_::C) rfl (zN (zU rfl (zM R4 (zA R4 (zA R4 (zN (zR ?_)))))));cases h;exact ⟨rfl, _, rfl, ⟨v4, rfl, (pk [0,98] rfl)⟩⟩
theorem w_c_Bound (c_Book_Signed : Int) (c_Book_Gatherings : GS encG) (c_Items : GS encIt) (r : (List Int) × Int) (h : P_c_Bound c_Book_Signed c_Book_Gatherings.l c_Items.l = some r) : Comes (EL 6) 32 [.agg [iv (c_Book_Signed), c_Book_Gatherings.v, c_Items.v]] (.tuple [(GSo true encI r.1).v, iv r.2]) :=
 TF.run (tf_c_Bound (Nat.le_refl _) (RdT.gs c_Book_Gatherings) (RdT.gs c_Items) h) fun w => (.tuple (.cons (.ownL (en := encI) (p := 0) rfl (.lits encI_lits)) (.cons .lit .nil)))
set_option maxRecDepth 10000 in
theorem tf_r4_Bound {k : Nat} (hk : 6 ≤ k) {C : List Thing} {c_Book_Signed : Int} {v_c_Book_Gatherings : AV} {c_Book_Gatherings : List Gat} {v_c_Items : AV} {c_Items : List Item} (ht_c_Book_Gatherings : RdT encG v_c_Book_Gatherings c_Book_Gatherings) (ht_c_Items : RdT encIt v_c_Items c_Items) {r : (List Int) × Int} (h : P_r4_Bound c_Book_Signed c_Book_Gatherings c_Items = some r) :
  TF (EL k) 33 [.agg [iv (c_Book_Signed), v_c_Book_Gatherings, v_c_Items]] C (RepF (fun (w : AV) => .tuple [w, iv r.2]) (fun (w : AV) => ownL true w encI r.1 :: C)) := by
 unfold P_r4_Bound at h
 have h_c_Book_Gatherings : Rdl C encG v_c_Book_Gatherings c_Book_Gatherings := RdT.rdl ht_c_Book_Gatherings
 have h_c_Items : Rdl C encIt v_c_Items c_Items := RdT.rdl ht_c_Items;refine TF.enter (fn := Go.Proofs.Tryz.f33) rfl rfl rfl rfl rfl (zU rfl (zQ 3 [_,_,_] R7 (fun b1=>zA R4 (zA R4 (zN (zU rfl (zV R3 (vW 0 [_,_,_] R5 R4) ?_)))))));obtain ⟨⟨y12, y12_2, y12_3, y12_4, y12_5, y12_6, y12_7, y12_8, y12_9, y12_10, y12_11, y12_12, y12_13⟩, hr12, h⟩ := andx_some h;dsimp only at h;obtain ⟨g, hgg, hrg⟩ := Rdl.reif (hs := .row b1 3 [iv (c_Book_Signed), v_c_Book_Gatherings, v_c_Items] :: C) h_c_Book_Gatherings M1 (ReifL.flat encG_tr);obtain ⟨g_2, hgg_2, hrg_2⟩ := Rdl.reif (hs := .row b1 3 [iv (c_Book_Signed), v_c_Book_Gatherings, v_c_Items] :: C) h_c_Items M1 (ReifL.flat encIt_tr);refine TO.call rfl rfl rfl rfl rfl (orcL rfl aD) (.cons (.agg (.cons .lit (.cons (hrg _) (.cons (hrg_2 _) .nil)))) .nil) (sem_of (w_r4_Faults c_Book_Signed g g_2 _ (by try rw [hgg]; try rw [hgg_2]; exact hr12))) (zM R4 (zX R5 (zX R5 (zJ 7 [_,_,_,_,_,_,_] R7 (fun b4=>TO.eff0 rfl rfl (Eff.store_row (p := 0) (cv := [_, _, _, _, _, _, _]) (cells' := [_, _, _, _, _, _, _]) rfl rfl rfl rfl rfl rfl rfl rfl aG (by decide) rfl) ?_)))));rintro _ rfl;refine zG (_::_::C) rfl (zA R4 (zN (zS (zU rfl (zM R4 ?_)))));obtain ⟨c16, hc16⟩ := zY (¬ y12_13 = 0);refine zV R3 (Val.neq hc16 rfl rfl) (zN ?_);obtain ⟨rfl, hc16, h⟩ | ⟨rfl, hc16, h⟩ := zI hc16 h
 ·refine zC rfl (zU rfl (zM R4 (zA R4 (zA R4 (zN (T.nilown (u := encI.u) (zR ?_)))))));cases h;exact ⟨rfl, _, rfl, ⟨nilS, rfl, (pk [0,98,98] rfl)⟩⟩
 refine zD rfl (zK (zU rfl (zA R4 (zN (zU rfl (zF 0 R6 (zV R3 (vW 1 [_,_] R5 R4) ?_)))))));obtain ⟨all20, hr20, h⟩ := andx_some h;obtain ⟨g_3, hgg_3, hrg_3⟩ := Rdl.reif (hs := .row b4 7 [(GSo y12_2 encI y12).v, (GSo y12_4 encI y12_3).v, iv (y12_5), (GSo y12_7 encI y12_6).v, (GSo y12_9 encI y12_8).v, (GSo y12_11 encI y12_10).v, iv (y12_12)] :: .row b1 3 [iv (c_Book_Signed), v_c_Book_Gatherings, v_c_Items] :: C) h_c_Book_Gatherings M2 (ReifL.flat encG_tr);refine TO.call rfl rfl rfl rfl rfl (orcL rfl aD) (.cons (.agg (.cons .lit (.cons (hrg_3 _) .nil))) .nil) (sem_of (w_r1_All c_Book_Signed g_3 _ (by try rw [hgg_3]; exact hr20))) (zV R3 (Val.len_gs rfl rfl) (zA R4 (zN ?_)))
 show T _ _ _ _ _ _;apply T.joinA (r := r) (W := AV) (fun j w => ⟨[], [(6, w)], ownL true w encI j :: .row b4 7 [(GSo y12_2 encI y12).v, (GSo y12_4 encI y12_3).v, iv (y12_5), (GSo y12_7 encI y12_6).v, (GSo y12_9 encI y12_8).v, (GSo y12_11 encI y12_10).v, iv (y12_12)] :: C⟩) h
 ·intro j h;refine zU rfl (zA R4 (zN (zB (T.nilown (u := encI.u) ?_))))
  show T _ _ _ _ _ _;apply T.iter (r := j) (W := AV) (fun j w => ⟨[], [(4, .ptr b4 0 7), (6, w), (7, iv ((all20.length : Int))), (8, iv (j.1))], ownL true w encI j.2 :: .row b4 7 [(GSo y12_2 encI y12).v, (GSo y12_4 encI y12_3).v, iv (y12_5), (GSo y12_7 encI y12_6).v, (GSo y12_9 encI y12_8).v, (GSo y12_11 encI y12_10).v, iv (y12_12)] :: C⟩) (w0 := nilS) h
  ·exact (sb (pk [0,0,98] rfl))
  rintro ⟨n, out⟩ v4 a h;unfold P_r4_Bound_L1 at h;dsimp only at h;dsimp only;refine zS (zU rfl (zM R4 (zM R4 ?_)));obtain ⟨c24, hc24⟩ := zY (n < (all20.length : Int));refine zV R3 (Val.lss hc24 rfl rfl) (zN ?_);obtain ⟨rfl, hc24, h⟩ | ⟨rfl, hc24, h⟩ := zI hc24 h
  ·refine zC rfl (zK ?_)
   show T _ _ _ _ _ _;apply T.joinA (r := a) (W := AV) (fun j w => ⟨[], [(4, .ptr b4 0 7), (6, w), (7, iv ((all20.length : Int))), (8, iv (n))], ownL true w encI j :: .row b4 7 [(GSo y12_2 encI y12).v, (GSo y12_4 encI y12_3).v, iv (y12_5), (GSo y12_7 encI y12_6).v, (GSo y12_9 encI y12_8).v, (GSo y12_11 encI y12_10).v, iv (y12_12)] :: C⟩) h
   ·intro j h;refine zB (zU rfl (zA R4 (zN (zB ?_))))
    show T _ _ _ _ _ _;apply T.iter (r := j) (W := Unit) (fun j w => ⟨[], [(4, .ptr b4 0 7), (6, v4), (7, iv ((all20.length : Int))), (8, iv (n)), (9, iv (j))], ownL true v4 encI out :: .row b4 7 [(GSo y12_2 encI y12).v, (GSo y12_4 encI y12_3).v, iv (y12_5), (GSo y12_7 encI y12_6).v, (GSo y12_9 encI y12_8).v, (GSo y12_11 encI y12_10).v, iv (y12_12)] :: C⟩) (w0 := ()) h
    ·exact (sb .refl)
    rintro i _ a h;unfold P_r4_Bound_L2 at h;refine zS (zU rfl (zM R4 (zF 0 R6 (zL 1 R3 R6 (zV R3 (Val.len_gs rfl rfl) ?_)))));obtain ⟨c31, hc31⟩ := zY (i < (((GSo y12_2 encI y12).l).length : Int));refine zV R3 (Val.lss hc31 rfl rfl) (zN ?_);obtain ⟨rfl, hc31, h⟩ | ⟨rfl, hc31, h⟩ := zI hc31 h
    ·refine zC rfl (zK (zS (zB (zU rfl (zF 0 R6 (zL 1 R3 R6 (zM R4 ?_)))))));obtain ⟨a37, hia37, ea37, h⟩ := el_some h;refine TO.fact (rdl_at (Rdl.gs (C := C) (GSo y12_2 encI y12)) M2 hia37 ea37) (fun hp=>?_);obtain ⟨pa37, hpa37, hva37⟩ := hp;refine zV R3 (hva37 ⟨rfl, rfl⟩ rfl rfl) (zV R3 (Val.load_e hpa37 M2 ⟨_, rfl, rfl⟩ rfl rfl) (zM R4 ?_));obtain ⟨c40, hc40⟩ := zY (a37 = n);refine zV R3 (Val.eql hc40 rfl rfl) (zN ?_);obtain ⟨rfl, hc40, h⟩ | ⟨rfl, hc40, h⟩ := zI hc40 h
     ·refine zC rfl (zU rfl (zM R4 (zM R4 (TO.build1 (en := encI) (a := i) rfl rfl rfl ⟨rfl, rfl⟩ ⟨_, rfl, rfl⟩ (by decide) (by decide) rfl rfl (fun v43=>?_)))));obtain ⟨hk44, h⟩ := chk_some h;refine TO.eff rfl rfl rfl (Eff.append_own (b := 8) (en := encI) (l := out) (l2 := [i]) (p := 1) (q := 0) ⟨rfl, rfl, rfl, ⟨_, rfl, rfl⟩, by decide, by decide⟩ rfl rfl rfl rfl rfl rfl (flat_ones _) (by decide) hk44) ?_;rintro v44 _ rfl;refine zG (_::_::_::C) rfl (zA R4 (zN (zE ?_)));cases h;exact ⟨ex_ne, ⟨rfl, v44, (sb (pk [1,1,98] rfl))⟩⟩
     refine zD rfl (zK (zT rfl (zM R4 ?_)));obtain ⟨hk33, h⟩ := chk_some h;refine zV R3 (Val.add rfl rfl hk33) (zA R4 (zN ?_));cases h;exact ⟨rfl, (), (sb .refl)⟩
    refine zD rfl (zE ?_);cases h;exact ⟨ex_ne, ⟨rfl, v4, (sb .refl)⟩⟩
   ·rintro out_2 v4_2 h;refine zT rfl (zM R4 ?_);obtain ⟨hk26, h⟩ := chk_some h;refine zV R3 (Val.add rfl rfl hk26) (zA R4 (zN ?_));cases h;exact ⟨rfl, v4_2, (sb .refl)⟩
  refine zD rfl (zE ?_);cases h;exact ⟨ex_ne, ⟨rfl, v4, (sb .refl)⟩⟩
 ·rintro out v4 h;refine zU rfl (zM R4 (zA R4 (zA R4 (zN (zR ?_)))));cases h;exact ⟨rfl, _, rfl, ⟨v4, rfl, (pk [0,98] rfl)⟩⟩
theorem w_r4_Bound (c_Book_Signed : Int) (c_Book_Gatherings : GS encG) (c_Items : GS encIt) (r : (List Int) × Int) (h : P_r4_Bound c_Book_Signed c_Book_Gatherings.l c_Items.l = some r) : Comes (EL 6) 33 [.agg [iv (c_Book_Signed), c_Book_Gatherings.v, c_Items.v]] (.tuple [(GSo true encI r.1).v, iv r.2]) :=
 TF.run (tf_r4_Bound (Nat.le_refl _) (RdT.gs c_Book_Gatherings) (RdT.gs c_Items) h) fun w => (.tuple (.cons (.ownL (en := encI) (p := 0) rfl (.lits encI_lits)) (.cons .lit .nil)))
set_option maxRecDepth 10000 in
theorem tf_law_CopyFaults {k : Nat} (hk : 7 ≤ k) {C : List Thing} {c_Book_Signed : Int} {v_c_Book_Gatherings : AV} {c_Book_Gatherings : List Gat} {v_c_Items : AV} {c_Items : List Item} (ht_c_Book_Gatherings : RdT encG v_c_Book_Gatherings c_Book_Gatherings) (ht_c_Items : RdT encIt v_c_Items c_Items) {r : Bool} (h : P_law_CopyFaults c_Book_Signed c_Book_Gatherings c_Items = some r) :
  TF (EL k) 6 [.agg [iv (c_Book_Signed), v_c_Book_Gatherings, v_c_Items]] C (RepF (fun (w : Unit) => bv r) (fun (w : Unit) => C)) := by
 unfold P_law_CopyFaults at h
 have h_c_Book_Gatherings : Rdl C encG v_c_Book_Gatherings c_Book_Gatherings := RdT.rdl ht_c_Book_Gatherings
 have h_c_Items : Rdl C encIt v_c_Items c_Items := RdT.rdl ht_c_Items;refine TF.enter (fn := Go.Proofs.Tryz.f6) rfl rfl rfl rfl rfl (zU rfl (zQ 3 [_,_,_] R7 (fun b1=>zA R4 (zN (zU rfl (zV R3 (vW 0 [_,_,_] R5 R4) ?_))))));obtain ⟨⟨y17, y17_2, y17_3⟩, hr17, h⟩ := andx_some h;dsimp only at h;obtain ⟨g, hgg, hrg⟩ := Rdl.reif (hs := .row b1 3 [iv (c_Book_Signed), v_c_Book_Gatherings, v_c_Items] :: C) h_c_Book_Gatherings M1 (ReifL.flat encG_tr);obtain ⟨g_2, hgg_2, hrg_2⟩ := Rdl.reif (hs := .row b1 3 [iv (c_Book_Signed), v_c_Book_Gatherings, v_c_Items] :: C) h_c_Items M1 (ReifL.flat encIt_tr);refine TO.call rfl rfl rfl rfl rfl (orcL rfl aD) (.cons (.agg (.cons .lit (.cons (hrg _) (.cons (hrg_2 _) .nil)))) .nil) (sem_of (w_c_Check c_Book_Signed g g_2 _ (by try rw [hgg]; try rw [hgg_2]; exact hr17))) (zM R4 (zX R5 (zX R5 (zX R5 (zA R4 (zA R4 (zA R4 (zN (zU rfl (zV R3 (vW 0 [_,_,_] R5 R4) ?_))))))))));obtain ⟨⟨y23, y23_2, y23_3⟩, hr23, h⟩ := andx_some h;dsimp only at h;obtain ⟨g_3, hgg_3, hrg_3⟩ := Rdl.reif (hs := .row b1 3 [iv (c_Book_Signed), v_c_Book_Gatherings, v_c_Items] :: C) h_c_Book_Gatherings M1 (ReifL.flat encG_tr);obtain ⟨g_4, hgg_4, hrg_4⟩ := Rdl.reif (hs := .row b1 3 [iv (c_Book_Signed), v_c_Book_Gatherings, v_c_Items] :: C) h_c_Items M1 (ReifL.flat encIt_tr);refine TO.call rfl rfl rfl rfl rfl (orcL rfl aD) (.cons (.agg (.cons .lit (.cons (hrg_3 _) (.cons (hrg_4 _) .nil)))) .nil) (sem_of (w_r4_Check c_Book_Signed g_3 g_4 _ (by try rw [hgg_3]; try rw [hgg_4]; exact hr23))) (zM R4 (zX R5 (zX R5 (zX R5 (zA R4 (zA R4 (zA R4 (zN ?_))))))))
 show T _ _ _ _ _ _;apply T.join (r := r) (W := Unit) (fun j w => ⟨[], [(1, .ptr b1 0 3)], .row b1 3 [iv (c_Book_Signed), v_c_Book_Gatherings, v_c_Items] :: C⟩) h
 ·intro j h
  show T _ _ _ _ _ _;apply T.joinA (r := j) (W := Unit) (fun j w => ⟨[], [(1, .ptr b1 0 3), (39, bv j)], .row b1 3 [iv (c_Book_Signed), v_c_Book_Gatherings, v_c_Items] :: C⟩) h
  ·intro j h;refine zT rfl (zM R4 (zM R4 ?_));obtain ⟨c29, hc29⟩ := zY (¬ y17 = y23);refine zV R3 (Val.neq hc29 rfl rfl) (zM R4 ?_);obtain ⟨rfl, hc29, h⟩ | ⟨rfl, hc29, h⟩ := zI hc29 h
   ·refine zO R3 (zO R3 (zO R3 (zP R6 (zM R4 (zO R3 (zO R3 (zO R3 (zP R6 (zN ?_)))))))));cases h;exact ⟨rfl, (), (sb .refl)⟩
   refine zM R4 (zM R4 ?_);obtain ⟨c33, hc33⟩ := zY (¬ y17_2 = y23_2);refine zV R3 (Val.neq hc33 rfl rfl) (zP R6 (zM R4 ?_));obtain ⟨rfl, hc33, h⟩ | ⟨rfl, hc33, h⟩ := zI hc33 h
   ·refine zO R3 (zO R3 (zO R3 (zP R6 (zN ?_))));cases h;exact ⟨rfl, (), (sb .refl)⟩
   refine zM R4 (zM R4 ?_);obtain ⟨c38, hc38⟩ := zY (¬ y17_3 = y23_3);refine zV R3 (Val.neq hc38 rfl rfl) (zP R6 (zN ?_));subst hc38;cases h;exact ⟨rfl, (), (sb .refl)⟩
  ·rintro x39 _ h;obtain ⟨rfl, h⟩ | ⟨rfl, h⟩ := zZ h
   ·refine zC rfl (zU rfl (zA R4 (zN (zR ?_))));cases h;exact ⟨ret_ne, ⟨rfl, _, rfl, ⟨(), rfl, (pk [98] rfl)⟩⟩⟩
   refine zD rfl (zK ?_);cases h;exact ⟨rfl, (), (sb .refl)⟩
 ·rintro _ _ h;refine zU rfl (zV R3 (vW 0 [_,_,_] R5 R4) ?_);obtain ⟨⟨y42, y42_2, y42_3, y42_4, y42_5, y42_6, y42_7, y42_8, y42_9, y42_10, y42_11, y42_12, y42_13⟩, hr42, h⟩ := andx_some h;dsimp only at h;obtain ⟨g_5, hgg_5, hrg_5⟩ := Rdl.reif (hs := .row b1 3 [iv (c_Book_Signed), v_c_Book_Gatherings, v_c_Items] :: C) h_c_Book_Gatherings M1 (ReifL.flat encG_tr);obtain ⟨g_6, hgg_6, hrg_6⟩ := Rdl.reif (hs := .row b1 3 [iv (c_Book_Signed), v_c_Book_Gatherings, v_c_Items] :: C) h_c_Items M1 (ReifL.flat encIt_tr);refine TO.call rfl rfl rfl rfl rfl (orcL rfl aD) (.cons (.agg (.cons .lit (.cons (hrg_5 _) (.cons (hrg_6 _) .nil)))) .nil) (sem_of (w_c_Faults c_Book_Signed g_5 g_6 _ (by try rw [hgg_5]; try rw [hgg_6]; exact hr42))) (zM R4 (zX R5 (zX R5 (zJ 7 [_,_,_,_,_,_,_] R7 (fun b9=>TO.eff0 rfl rfl (Eff.store_row (p := 0) (cv := [_, _, _, _, _, _, _]) (cells' := [_, _, _, _, _, _, _]) rfl rfl rfl rfl rfl rfl rfl rfl aG (by decide) rfl) ?_)))));rintro _ rfl;refine zG (_::_::C) rfl (zA R4 (zN (zU rfl (zV R3 (vW 1 [_,_,_] R5 R4) ?_))));obtain ⟨⟨y47, y47_2, y47_3, y47_4, y47_5, y47_6, y47_7, y47_8, y47_9, y47_10, y47_11, y47_12, y47_13⟩, hr47, h⟩ := andx_some h;dsimp only at h;obtain ⟨g_7, hgg_7, hrg_7⟩ := Rdl.reif (hs := .row b9 7 [(GSo y42_2 encI y42).v, (GSo y42_4 encI y42_3).v, iv (y42_5), (GSo y42_7 encI y42_6).v, (GSo y42_9 encI y42_8).v, (GSo y42_11 encI y42_10).v, iv (y42_12)] :: .row b1 3 [iv (c_Book_Signed), v_c_Book_Gatherings, v_c_Items] :: C) h_c_Book_Gatherings M2 (ReifL.flat encG_tr);obtain ⟨g_8, hgg_8, hrg_8⟩ := Rdl.reif (hs := .row b9 7 [(GSo y42_2 encI y42).v, (GSo y42_4 encI y42_3).v, iv (y42_5), (GSo y42_7 encI y42_6).v, (GSo y42_9 encI y42_8).v, (GSo y42_11 encI y42_10).v, iv (y42_12)] :: .row b1 3 [iv (c_Book_Signed), v_c_Book_Gatherings, v_c_Items] :: C) h_c_Items M2 (ReifL.flat encIt_tr);refine TO.call rfl rfl rfl rfl rfl (orcL rfl aD) (.cons (.agg (.cons .lit (.cons (hrg_7 _) (.cons (hrg_8 _) .nil)))) .nil) (sem_of (w_r4_Faults c_Book_Signed g_7 g_8 _ (by try rw [hgg_7]; try rw [hgg_8]; exact hr47))) (zM R4 (zX R5 (zX R5 (zJ 7 [_,_,_,_,_,_,_] R7 (fun b10=>TO.eff0 rfl rfl (Eff.store_row (p := 0) (cv := [_, _, _, _, _, _, _]) (cells' := [_, _, _, _, _, _, _]) rfl rfl rfl rfl rfl rfl rfl rfl aG (by decide) rfl) ?_)))));rintro _ rfl;refine zG (_::_::_::C) rfl (zA R4 (zN ?_))
  show T _ _ _ _ _ _;apply T.join (r := r) (W := Unit) (fun j w => ⟨[], [(1, .ptr b1 0 3)], .row b10 7 [(GSo y47_2 encI y47).v, (GSo y47_4 encI y47_3).v, iv (y47_5), (GSo y47_7 encI y47_6).v, (GSo y47_9 encI y47_8).v, (GSo y47_11 encI y47_10).v, iv (y47_12)] :: .row b9 7 [(GSo y42_2 encI y42).v, (GSo y42_4 encI y42_3).v, iv (y42_5), (GSo y42_7 encI y42_6).v, (GSo y42_9 encI y42_8).v, (GSo y42_11 encI y42_10).v, iv (y42_12)] :: .row b1 3 [iv (c_Book_Signed), v_c_Book_Gatherings, v_c_Items] :: C⟩) h
  ·intro j h
   show T _ _ _ _ _ _;apply T.joinA (r := j) (W := Unit) (fun j w => ⟨[], [(1, .ptr b1 0 3), (58, bv j)], .row b10 7 [(GSo y47_2 encI y47).v, (GSo y47_4 encI y47_3).v, iv (y47_5), (GSo y47_7 encI y47_6).v, (GSo y47_9 encI y47_8).v, (GSo y47_11 encI y47_10).v, iv (y47_12)] :: .row b9 7 [(GSo y42_2 encI y42).v, (GSo y42_4 encI y42_3).v, iv (y42_5), (GSo y42_7 encI y42_6).v, (GSo y42_9 encI y42_8).v, (GSo y42_11 encI y42_10).v, iv (y42_12)] :: .row b1 3 [iv (c_Book_Signed), v_c_Book_Gatherings, v_c_Items] :: C⟩) h
   ·intro j h;refine zT rfl (zV R3 (vW 1 [_,_,_,_,_,_,_] R5 R4) (zV R3 (vW 0 [_,_,_,_,_,_,_] R5 R4) ?_));obtain ⟨y52, hr52, h⟩ := andx_some h;refine TO.callT (first := []) (cap := []) (vs := [.agg [(GSo y42_2 encI y42).v, (GSo y42_4 encI y42_3).v, iv (y42_5), (GSo y42_7 encI y42_6).v, (GSo y42_9 encI y42_8).v, (GSo y42_11 encI y42_10).v, iv (y42_12)], .agg [(GSo y47_2 encI y47).v, (GSo y47_4 encI y47_3).v, iv (y47_5), (GSo y47_7 encI y47_6).v, (GSo y47_9 encI y47_8).v, (GSo y47_11 encI y47_10).v, iv (y47_12)]]) rfl rfl rfl rfl rfl rfl (orcN rfl) (tf_r4_Same aD (Rdl.mono (Rdl.gs (C := C) (GSo y42_2 encI y42)) M3) (Rdl.mono (Rdl.gs (C := C) (GSo y42_4 encI y42_3)) M3) (Rdl.mono (Rdl.gs (C := C) (GSo y42_7 encI y42_6)) M3) (Rdl.mono (Rdl.gs (C := C) (GSo y42_9 encI y42_8)) M3) (Rdl.mono (Rdl.gs (C := C) (GSo y42_11 encI y42_10)) M3) (Rdl.mono (Rdl.gs (C := C) (GSo y47_2 encI y47)) M3) (Rdl.mono (Rdl.gs (C := C) (GSo y47_4 encI y47_3)) M3) (Rdl.mono (Rdl.gs (C := C) (GSo y47_7 encI y47_6)) M3) (Rdl.mono (Rdl.gs (C := C) (GSo y47_9 encI y47_8)) M3) (Rdl.mono (Rdl.gs (C := C) (GSo y47_11 encI y47_10)) M3) hr52) ?_;rintro _;refine zG (_::_::_::C) rfl (zV R3 (Val.not rfl) (zM R4 ?_));obtain ⟨rfl, h⟩ | ⟨rfl, h⟩ := zZ h
    ·refine zM R4 (zM R4 ?_);obtain ⟨c57, hc57⟩ := zY (¬ y42_13 = y47_13);refine zV R3 (Val.neq hc57 rfl rfl) (zP R6 (zN ?_));subst hc57;cases h;exact ⟨rfl, (), (sb .refl)⟩
    refine zO R3 (zO R3 (zO R3 (zP R6 (zN ?_))));cases h;exact ⟨rfl, (), (sb .refl)⟩
   ·rintro x58 _ h;obtain ⟨rfl, h⟩ | ⟨rfl, h⟩ := zZ h
    ·refine zC rfl (zU rfl (zA R4 (zN (zR ?_))));cases h;exact ⟨ret_ne, ⟨rfl, _, rfl, ⟨(), rfl, (pk [98,98,98] rfl)⟩⟩⟩
    refine zD rfl (zK ?_);cases h;exact ⟨rfl, (), (sb .refl)⟩
  ·rintro _ _ h;refine zU rfl (zV R3 (vW 2 [_,_,_] R5 R4) ?_);obtain ⟨⟨y61, y61_2, y61_3⟩, hr61, h⟩ := andx_some h;dsimp only at h;obtain ⟨g_9, hgg_9, hrg_9⟩ := Rdl.reif (hs := .row b10 7 [(GSo y47_2 encI y47).v, (GSo y47_4 encI y47_3).v, iv (y47_5), (GSo y47_7 encI y47_6).v, (GSo y47_9 encI y47_8).v, (GSo y47_11 encI y47_10).v, iv (y47_12)] :: .row b9 7 [(GSo y42_2 encI y42).v, (GSo y42_4 encI y42_3).v, iv (y42_5), (GSo y42_7 encI y42_6).v, (GSo y42_9 encI y42_8).v, (GSo y42_11 encI y42_10).v, iv (y42_12)] :: .row b1 3 [iv (c_Book_Signed), v_c_Book_Gatherings, v_c_Items] :: C) h_c_Book_Gatherings M3 (ReifL.flat encG_tr);obtain ⟨g_10, hgg_10, hrg_10⟩ := Rdl.reif (hs := .row b10 7 [(GSo y47_2 encI y47).v, (GSo y47_4 encI y47_3).v, iv (y47_5), (GSo y47_7 encI y47_6).v, (GSo y47_9 encI y47_8).v, (GSo y47_11 encI y47_10).v, iv (y47_12)] :: .row b9 7 [(GSo y42_2 encI y42).v, (GSo y42_4 encI y42_3).v, iv (y42_5), (GSo y42_7 encI y42_6).v, (GSo y42_9 encI y42_8).v, (GSo y42_11 encI y42_10).v, iv (y42_12)] :: .row b1 3 [iv (c_Book_Signed), v_c_Book_Gatherings, v_c_Items] :: C) h_c_Items M3 (ReifL.flat encIt_tr);refine TO.call rfl rfl rfl rfl rfl (orcL rfl aD) (.cons (.agg (.cons .lit (.cons (hrg_9 _) (.cons (hrg_10 _) .nil)))) .nil) (sem_of (w_c_Range c_Book_Signed g_9 g_10 _ (by try rw [hgg_9]; try rw [hgg_10]; exact hr61))) (zM R4 (zX R5 (zX R5 (zJ 2 [_,_] R7 (fun b11=>TO.eff0 rfl rfl (Eff.store_row (p := 0) (cv := [_, _]) (cells' := [_, _]) rfl rfl rfl rfl rfl rfl rfl rfl aG (by decide) rfl) ?_)))));rintro _ rfl;refine zG (_::_::_::_::C) rfl (zA R4 (zN (zU rfl (zV R3 (vW 3 [_,_,_] R5 R4) ?_))));obtain ⟨⟨y66, y66_2, y66_3⟩, hr66, h⟩ := andx_some h;dsimp only at h;obtain ⟨g_11, hgg_11, hrg_11⟩ := Rdl.reif (hs := .row b11 2 [iv (y61), iv (y61_2)] :: .row b10 7 [(GSo y47_2 encI y47).v, (GSo y47_4 encI y47_3).v, iv (y47_5), (GSo y47_7 encI y47_6).v, (GSo y47_9 encI y47_8).v, (GSo y47_11 encI y47_10).v, iv (y47_12)] :: .row b9 7 [(GSo y42_2 encI y42).v, (GSo y42_4 encI y42_3).v, iv (y42_5), (GSo y42_7 encI y42_6).v, (GSo y42_9 encI y42_8).v, (GSo y42_11 encI y42_10).v, iv (y42_12)] :: .row b1 3 [iv (c_Book_Signed), v_c_Book_Gatherings, v_c_Items] :: C) h_c_Book_Gatherings M4 (ReifL.flat encG_tr);obtain ⟨g_12, hgg_12, hrg_12⟩ := Rdl.reif (hs := .row b11 2 [iv (y61), iv (y61_2)] :: .row b10 7 [(GSo y47_2 encI y47).v, (GSo y47_4 encI y47_3).v, iv (y47_5), (GSo y47_7 encI y47_6).v, (GSo y47_9 encI y47_8).v, (GSo y47_11 encI y47_10).v, iv (y47_12)] :: .row b9 7 [(GSo y42_2 encI y42).v, (GSo y42_4 encI y42_3).v, iv (y42_5), (GSo y42_7 encI y42_6).v, (GSo y42_9 encI y42_8).v, (GSo y42_11 encI y42_10).v, iv (y42_12)] :: .row b1 3 [iv (c_Book_Signed), v_c_Book_Gatherings, v_c_Items] :: C) h_c_Items M4 (ReifL.flat encIt_tr);refine TO.call rfl rfl rfl rfl rfl (orcL rfl aD) (.cons (.agg (.cons .lit (.cons (hrg_11 _) (.cons (hrg_12 _) .nil)))) .nil) (sem_of (w_r4_Range c_Book_Signed g_11 g_12 _ (by try rw [hgg_11]; try rw [hgg_12]; exact hr66))) (zM R4 (zX R5 (zX R5 (zJ 2 [_,_] R7 (fun b12=>TO.eff0 rfl rfl (Eff.store_row (p := 0) (cv := [_, _]) (cells' := [_, _]) rfl rfl rfl rfl rfl rfl rfl rfl aG (by decide) rfl) ?_)))))
   rintro _ rfl;refine zG (_::_::_::_::_::C) rfl (zA R4 (zN ?_))
   show T _ _ _ _ _ _;apply T.join (r := r) (W := Unit) (fun j w => ⟨[], [(1, .ptr b1 0 3)], .row b12 2 [iv (y66), iv (y66_2)] :: .row b11 2 [iv (y61), iv (y61_2)] :: .row b10 7 [(GSo y47_2 encI y47).v, (GSo y47_4 encI y47_3).v, iv (y47_5), (GSo y47_7 encI y47_6).v, (GSo y47_9 encI y47_8).v, (GSo y47_11 encI y47_10).v, iv (y47_12)] :: .row b9 7 [(GSo y42_2 encI y42).v, (GSo y42_4 encI y42_3).v, iv (y42_5), (GSo y42_7 encI y42_6).v, (GSo y42_9 encI y42_8).v, (GSo y42_11 encI y42_10).v, iv (y42_12)] :: .row b1 3 [iv (c_Book_Signed), v_c_Book_Gatherings, v_c_Items] :: C⟩) h
   ·intro j h
    show T _ _ _ _ _ _;apply T.joinA (r := j) (W := Unit) (fun j w => ⟨[], [(1, .ptr b1 0 3), (76, bv j)], .row b12 2 [iv (y66), iv (y66_2)] :: .row b11 2 [iv (y61), iv (y61_2)] :: .row b10 7 [(GSo y47_2 encI y47).v, (GSo y47_4 encI y47_3).v, iv (y47_5), (GSo y47_7 encI y47_6).v, (GSo y47_9 encI y47_8).v, (GSo y47_11 encI y47_10).v, iv (y47_12)] :: .row b9 7 [(GSo y42_2 encI y42).v, (GSo y42_4 encI y42_3).v, iv (y42_5), (GSo y42_7 encI y42_6).v, (GSo y42_9 encI y42_8).v, (GSo y42_11 encI y42_10).v, iv (y42_12)] :: .row b1 3 [iv (c_Book_Signed), v_c_Book_Gatherings, v_c_Items] :: C⟩) h
    ·intro j h;refine zT rfl (zV R3 (vW 1 [_,_] R5 R4) (zV R3 (vW 0 [_,_] R5 R4) ?_));obtain ⟨c71, hc71⟩ := zY (¬ (y61 = y66 ∧ y61_2 = y66_2));refine zV R3 (Val.binD hc71 rfl rfl (neq_ty39 _ _ _ _ _ _)) (zM R4 ?_);obtain ⟨rfl, hc71, h⟩ | ⟨rfl, hc71, h⟩ := zI hc71 h
     ·refine zO R3 (zO R3 (zO R3 (zP R6 (zN ?_))));cases h;exact ⟨rfl, (), (sb .refl)⟩
     refine zM R4 (zM R4 ?_);obtain ⟨c75, hc75⟩ := zY (¬ y61_3 = y66_3);refine zV R3 (Val.neq hc75 rfl rfl) (zP R6 (zN ?_));subst hc75;cases h;exact ⟨rfl, (), (sb .refl)⟩
    ·rintro x76 _ h;obtain ⟨rfl, h⟩ | ⟨rfl, h⟩ := zZ h
     ·refine zC rfl (zU rfl (zA R4 (zN (zR ?_))));cases h;exact ⟨ret_ne, ⟨rfl, _, rfl, ⟨(), rfl, (pk [98,98,98,98,98] rfl)⟩⟩⟩
     refine zD rfl (zK ?_);cases h;exact ⟨rfl, (), (sb .refl)⟩
   ·rintro _ _ h;refine zU rfl (zV R3 (vW 4 [_,_,_] R5 R4) ?_);obtain ⟨⟨y79, y79_2⟩, hr79, h⟩ := andx_some h;dsimp only at h;obtain ⟨g_13, hgg_13, hrg_13⟩ := Rdl.reif (hs := .row b12 2 [iv (y66), iv (y66_2)] :: .row b11 2 [iv (y61), iv (y61_2)] :: .row b10 7 [(GSo y47_2 encI y47).v, (GSo y47_4 encI y47_3).v, iv (y47_5), (GSo y47_7 encI y47_6).v, (GSo y47_9 encI y47_8).v, (GSo y47_11 encI y47_10).v, iv (y47_12)] :: .row b9 7 [(GSo y42_2 encI y42).v, (GSo y42_4 encI y42_3).v, iv (y42_5), (GSo y42_7 encI y42_6).v, (GSo y42_9 encI y42_8).v, (GSo y42_11 encI y42_10).v, iv (y42_12)] :: .row b1 3 [iv (c_Book_Signed), v_c_Book_Gatherings, v_c_Items] :: C) h_c_Book_Gatherings M5 (ReifL.flat encG_tr);obtain ⟨g_14, hgg_14, hrg_14⟩ := Rdl.reif (hs := .row b12 2 [iv (y66), iv (y66_2)] :: .row b11 2 [iv (y61), iv (y61_2)] :: .row b10 7 [(GSo y47_2 encI y47).v, (GSo y47_4 encI y47_3).v, iv (y47_5), (GSo y47_7 encI y47_6).v, (GSo y47_9 encI y47_8).v, (GSo y47_11 encI y47_10).v, iv (y47_12)] :: .row b9 7 [(GSo y42_2 encI y42).v, (GSo y42_4 encI y42_3).v, iv (y42_5), (GSo y42_7 encI y42_6).v, (GSo y42_9 encI y42_8).v, (GSo y42_11 encI y42_10).v, iv (y42_12)] :: .row b1 3 [iv (c_Book_Signed), v_c_Book_Gatherings, v_c_Items] :: C) h_c_Items M5 (ReifL.flat encIt_tr);refine TO.call rfl rfl rfl rfl rfl (orcL rfl aD) (.cons (.agg (.cons .lit (.cons (hrg_13 _) (.cons (hrg_14 _) .nil)))) .nil) (sem_of (w_c_Bound c_Book_Signed g_13 g_14 _ (by try rw [hgg_13]; try rw [hgg_14]; exact hr79))) (zM R4 (zX R5 (zX R5 (zA R4 (zA R4 (zN (zU rfl (zV R3 (vW 4 [_,_,_] R5 R4) ?_))))))));obtain ⟨⟨y84, y84_2⟩, hr84, h⟩ := andx_some h;dsimp only at h;obtain ⟨g_15, hgg_15, hrg_15⟩ := Rdl.reif (hs := .row b12 2 [iv (y66), iv (y66_2)] :: .row b11 2 [iv (y61), iv (y61_2)] :: .row b10 7 [(GSo y47_2 encI y47).v, (GSo y47_4 encI y47_3).v, iv (y47_5), (GSo y47_7 encI y47_6).v, (GSo y47_9 encI y47_8).v, (GSo y47_11 encI y47_10).v, iv (y47_12)] :: .row b9 7 [(GSo y42_2 encI y42).v, (GSo y42_4 encI y42_3).v, iv (y42_5), (GSo y42_7 encI y42_6).v, (GSo y42_9 encI y42_8).v, (GSo y42_11 encI y42_10).v, iv (y42_12)] :: .row b1 3 [iv (c_Book_Signed), v_c_Book_Gatherings, v_c_Items] :: C) h_c_Book_Gatherings M5 (ReifL.flat encG_tr);obtain ⟨g_16, hgg_16, hrg_16⟩ := Rdl.reif (hs := .row b12 2 [iv (y66), iv (y66_2)] :: .row b11 2 [iv (y61), iv (y61_2)] :: .row b10 7 [(GSo y47_2 encI y47).v, (GSo y47_4 encI y47_3).v, iv (y47_5), (GSo y47_7 encI y47_6).v, (GSo y47_9 encI y47_8).v, (GSo y47_11 encI y47_10).v, iv (y47_12)] :: .row b9 7 [(GSo y42_2 encI y42).v, (GSo y42_4 encI y42_3).v, iv (y42_5), (GSo y42_7 encI y42_6).v, (GSo y42_9 encI y42_8).v, (GSo y42_11 encI y42_10).v, iv (y42_12)] :: .row b1 3 [iv (c_Book_Signed), v_c_Book_Gatherings, v_c_Items] :: C) h_c_Items M5 (ReifL.flat encIt_tr);refine TO.call rfl rfl rfl rfl rfl (orcL rfl aD) (.cons (.agg (.cons .lit (.cons (hrg_15 _) (.cons (hrg_16 _) .nil)))) .nil) (sem_of (w_r4_Bound c_Book_Signed g_15 g_16 _ (by try rw [hgg_15]; try rw [hgg_16]; exact hr84))) (zM R4 (zX R5 (zX R5 (zA R4 (zA R4 (zN ?_))))))
    show T _ _ _ _ _ _;apply T.joinA (r := r) (W := Unit) (fun j w => ⟨[], [(2, bv j)], .row b12 2 [iv (y66), iv (y66_2)] :: .row b11 2 [iv (y61), iv (y61_2)] :: .row b10 7 [(GSo y47_2 encI y47).v, (GSo y47_4 encI y47_3).v, iv (y47_5), (GSo y47_7 encI y47_6).v, (GSo y47_9 encI y47_8).v, (GSo y47_11 encI y47_10).v, iv (y47_12)] :: .row b9 7 [(GSo y42_2 encI y42).v, (GSo y42_4 encI y42_3).v, iv (y42_5), (GSo y42_7 encI y42_6).v, (GSo y42_9 encI y42_8).v, (GSo y42_11 encI y42_10).v, iv (y42_12)] :: .row b1 3 [iv (c_Book_Signed), v_c_Book_Gatherings, v_c_Items] :: C⟩) h
    ·intro j h;refine zT rfl (zM R4 (zM R4 ?_));obtain ⟨same89, hr89, h⟩ := andx_some h;refine TO.call rfl rfl rfl rfl rfl (orcL rfl aD) (.cons .gs (.cons .gs .nil)) (sem_of (w_r1_Ints (GSo true encI y79) (GSo true encI y84) _ (by exact hr89))) (zM R4 ?_);obtain ⟨rfl, h⟩ | ⟨rfl, h⟩ := zZ h
     ·refine zM R4 (zM R4 ?_);obtain ⟨c93, hc93⟩ := zY (y79_2 = y84_2);refine zV R3 (Val.eql hc93 rfl rfl) (zP R6 (zM R4 ?_));obtain ⟨rfl, hc93, h⟩ | ⟨rfl, hc93, h⟩ := zI hc93 h
      ·refine TO.call rfl rfl rfl rfl rfl orcA .nil rfl (zP R6 (zA R4 (zN ?_)));cases h;exact ⟨rfl, (), (sb .refl)⟩
      refine zO R3 (zP R6 (zA R4 (zN ?_)));cases h;exact ⟨rfl, (), (sb .refl)⟩
     refine zO R3 (zO R3 (zO R3 (zP R6 (zM R4 (zO R3 (zP R6 (zA R4 (zN ?_))))))));cases h;exact ⟨rfl, (), (sb .refl)⟩
    ·rintro x2 _ h;refine zR ?_;cases h;exact ⟨rfl, _, rfl, ⟨(), rfl, (pk [98,98,98,98,98] rfl)⟩⟩
theorem w_law_CopyFaults (c_Book_Signed : Int) (c_Book_Gatherings : GS encG) (c_Items : GS encIt) (r : Bool) (h : P_law_CopyFaults c_Book_Signed c_Book_Gatherings.l c_Items.l = some r) : Comes (EL 7) 6 [.agg [iv (c_Book_Signed), c_Book_Gatherings.v, c_Items.v]] (bv r) :=
 TF.run (tf_law_CopyFaults (Nat.le_refl _) (RdT.gs c_Book_Gatherings) (RdT.gs c_Items) h) fun w => .lit
end Go.Am.YthckcbfijdambaaGreat
end
section
namespace Go.Am
open Go.RowKit
def Lifts (P : Program) (t : TypeId) {α : Type} (e : En α) : Prop :=
 ∀ (H : Type) (enc : TypeId × Value → H) (W : World) (base : Nat) (held : Bool) (fuel : Nat) (cs : List Value) (x : DataW H × List MemPlace),
  DataW.trod enc P W base (fun _ => true) held fuel t cs = some x → ∃ a : α, RelL (snapR W 0) (e.f a) cs
theorem Lifts.int {P : Program} {t : TypeId} (ht : P.underlying t = some (.int .i64)) : Lifts P t encI := by
 intro H enc W base held fuel cs x hx;obtain ⟨n, rfl, _, _⟩ := DataW.trod_int ht hx;exact ⟨n, .cons (.lit _) (.nil _)⟩
theorem snap_cell {W : World} {b off : Nat} {v : Value} (h : W.cell? ⟨b, off, none⟩ = some v) : ∃ c, (snapR W 0).imm b = some c ∧ c[off]? = some v := by
 unfold World.cell? at h;split at h
 ·rename_i c _ _ hb
  simp at h;exact ⟨c, by simp only [snapR, snap, Nat.zero_le, if_true]; simp only [] at hb; rw [hb], h⟩
 ·cases h
theorem list_of {α : Type} {p : Nat → α → Prop} : ∀ n : Nat, (∀ i, i < n → ∃ a, p i a) → ∃ l : List α, l.length = n ∧ ∀ i a, l[i]? = some a → p i a := by
 intro n
 induction n with
 | zero => intro _; exact ⟨[], rfl, fun i a h => by simp at h⟩
 | succ n ih =>
  intro h;obtain ⟨l, h1, h2⟩ := ih fun i hi => h i (by omega)
  obtain ⟨a, ha⟩ := h n (by omega);refine ⟨l ++ [a], by simp [h1], fun i b hb => ?_⟩
  by_cases hi : i < l.length
  ·rw [List.getElem?_append_left hi] at hb; exact h2 i b hb
  ·rw [List.getElem?_append_right (by omega)] at hb
   have : i - l.length = 0 := by
    have := (List.getElem?_eq_some_iff.1 hb).1;simp at this; omega
   rw [this] at hb;simp at hb;subst hb
   have : i = n := by omega
   rw [this]; exact ha
theorem Lifts.slice {P : Program} {t e : TypeId} {α : Type} {en : En α} (ht : P.underlying t = some (.slice e)) (hu : P.cellsOf e = en.u) (h0 : 0 < en.u) (h : Lifts P e en) : Lifts P t (encSl en) := by
 intro H enc W base held fuel cs x hx
 rcases DataW.trod_slice ht hx with ⟨rfl, _⟩ | ⟨a, len, cap, elems, rest, n, _, rfl, _, hb, hl, _, hlen, hel, hsp, _⟩
 ·exact ⟨⟨nilS, [], .inl ⟨rfl, rfl, rfl⟩⟩, .cons (.lit _) (.nil _)⟩
 ·rw [hu] at hel hsp;obtain ⟨hrl, hr⟩ := hsp rfl
  by_cases hc : cap = 0
  ·subst hc
   have : len = 0 := by omega
   subst this;exact ⟨⟨.tree en.u 0 [], [], .inr ⟨rfl, by simp⟩⟩, .cons .tree0 (.nil _)⟩
  ·have hcell : ∀ i, i < len → ∃ (a' : α) (ci : List Value), W.cells? base (a.add (i * en.u)) en.u = some ci ∧ RelL (snapR W 0) (en.f a') ci := by
    intro i hi
    have he := hel i hi;rw [List.getElem?_eq_getElem (by omega)] at he;obtain ⟨ci, h1, h2⟩ := Option.bind_eq_some_iff.1 he;obtain ⟨a', h3⟩ := h _ _ _ _ _ _ _ _ h2;exact ⟨a', ci, h1, h3⟩
   have hspot : a.spot = none := by
    have : ∃ ci, W.cells? base (a.add (0 * en.u)) en.u = some ci := by
     by_cases hl0 : 0 < len
     ·obtain ⟨_, ci, h1, _⟩ := hcell 0 hl0;exact ⟨ci, h1⟩
     ·have hz : len = 0 := by omega
      have he := hr 0 (by omega);rw [List.getElem?_eq_getElem (by omega)] at he;obtain ⟨ci, h1, _⟩ := Option.bind_eq_some_iff.1 he;exact ⟨ci, by simpa [hz] using h1⟩
    obtain ⟨ci, h1⟩ := this;obtain ⟨_, h2, h3⟩ := World.cells?_some h1
    have h4 := h3 0 h0;rw [List.getElem?_eq_getElem (by omega)] at h4
    have := World.cell?_spot h4
    simpa [Addr.add] using this
   obtain ⟨b, off, sp⟩ := a;simp only at hspot;subst hspot;obtain ⟨l, hl1, hl2⟩ := list_of (p := fun i a' => ∃ ci : List Value, W.cells? base ((⟨b, off, none⟩ : Addr).add (i * en.u)) en.u = some ci ∧ RelL (snapR W 0) (en.f a') ci) len hcell
   have hfl : (l.flatMap en.f).length = len * en.u := by rw [flat_len, hl1]
   have each : ∀ j, j < len * en.u → ∃ v y c, (l.flatMap en.f)[j]? = some v ∧ (snapR W 0).imm b = some c ∧ c[off + j]? = some y ∧ RelV (snapR W 0) v y := by
    intro j hj
    have hi : j / en.u < l.length := by rw [hl1]; exact Nat.div_lt_of_lt_mul (by rw [Nat.mul_comm]; exact hj)
    have hk : j % en.u < en.u := Nat.mod_lt _ h0
    have hd : j / en.u * en.u + j % en.u = j := by rw [Nat.mul_comm]; exact Nat.div_add_mod j en.u
    obtain ⟨ci, h1, h2⟩ := hl2 _ _ (List.getElem?_eq_getElem hi);obtain ⟨_, h3, h4⟩ := World.cells?_some h1
    have h5 := h4 _ hk;rw [List.getElem?_eq_getElem (by omega)] at h5
    have h6 : ((⟨b, off, none⟩ : Addr).add (j / en.u * en.u)).add (j % en.u) = ⟨b, off + j, none⟩ := by
     simp only [addr_add]
     congr 1
     omega
    rw [h6] at h5;obtain ⟨c, h7, h8⟩ := snap_cell h5
    have hlen' := en.len l[j / en.u]
    have hv := List.getElem?_eq_getElem (l := en.f l[j / en.u]) (i := j % en.u) (by omega);refine ⟨_, _, c, ?_, h7, h8, h2.2 _ _ _ hv (List.getElem?_eq_getElem _)⟩
    have := flat_get (en := en) (List.getElem?_eq_getElem hi) hk;rw [hd] at this;rw [this, hv]
   refine ⟨⟨.tree en.u l.length (l.flatMap en.f), l, .inr ⟨rfl, by rw [hfl, hl1]⟩⟩, .cons ?_ (.nil _)⟩
   show RelV _ (.tree en.u l.length (l.flatMap en.f)) _;rw [hl1]
   by_cases hz : len * en.u = 0
   ·refine .tree (c := #[]) hfl hl (.inl (List.eq_nil_of_length_eq_zero (by omega))) fun i v x hv hx => by simp at hx
   ·obtain ⟨_, _, c, _, hc1, _, _⟩ := each (len * en.u - 1) (by omega);refine .tree (c := c) hfl hl (.inr ⟨hc1, ?_⟩) fun j v y hv hy => ?_
    ·obtain ⟨_, _, c', _, hc2, hc3, _⟩ := each (len * en.u - 1) (by omega);rw [hc1] at hc2;cases hc2
     have := (Array.getElem?_eq_some_iff.1 hc3).1;omega
    ·have hj := (List.getElem?_eq_some_iff.1 hv).1;obtain ⟨v', y', c', e1, e2, e3, e4⟩ := each j (by omega);rw [hc1] at e2;cases e2;rw [hv] at e1;rw [hy] at e3;cases e1;cases e3;exact e4
theorem RelL.glue {r : Ren} {a b : List AV} {cs : List Value} {n : Nat} (h1 : RelL r a (cs.take n)) (h2 : RelL r b (cs.drop n)) : RelL r (a ++ b) cs := by
 have := h1.append h2
 rwa [List.take_append_drop] at this
end Go.Am
end
section
namespace Go.Am
open Go.RowKit
def enPair {α β : Type} (a : En α) (b : En β) : En (α × β) := ⟨a.u + b.u, fun p => a.f p.1 ++ b.f p.2, fun p => by simp [a.len, b.len]⟩
theorem Lifts.map {P : Program} {t : TypeId} {α β : Type} {a : En α} {b : En β} (h : Lifts P t a) (hf : ∀ x, ∃ y, b.f y = a.f x) : Lifts P t b := by
 intro H enc W base held fuel cs x hx;obtain ⟨v, hv⟩ := h _ _ _ _ _ _ _ _ hx;obtain ⟨y, hy⟩ := hf v;exact ⟨y, by rw [hy]; exact hv⟩
theorem Lifts.struct1 {P : Program} {t : TypeId} {f0 : Field} {α : Type} {a : En α} (ht : P.underlying t = some (.struct #[f0])) (o0 : f0.offset = 0) (c0 : P.cellsOf f0.type = a.u) (ct : P.cellsOf t = a.u)
  (l0 : Lifts P f0.type a) : Lifts P t a := by
 intro H enc W base held fuel cs x hx;obtain ⟨xs, n, _, _, hl, hn, h⟩ := DataW.trod_struct ht hx
 have hn1 : xs.length = 1 := hn
 have h0 := h 0 f0 rfl;rw [List.getElem?_eq_getElem (by omega), o0, c0, List.drop_zero, List.take_of_length_le (by omega)] at h0;exact l0 _ _ _ _ _ _ _ _ h0
theorem Lifts.struct2 {P : Program} {t : TypeId} {f0 f1 : Field} {α β : Type} {a : En α} {b : En β} (ht : P.underlying t = some (.struct #[f0, f1])) (o0 : f0.offset = 0) (o1 : f1.offset = a.u)
  (c0 : P.cellsOf f0.type = a.u) (c1 : P.cellsOf f1.type = b.u) (ct : P.cellsOf t = a.u + b.u) (l0 : Lifts P f0.type a) (l1 : Lifts P f1.type b) : Lifts P t (enPair a b) := by
 intro H enc W base held fuel cs x hx;obtain ⟨xs, n, _, _, hl, hn, h⟩ := DataW.trod_struct ht hx
 have hn1 : xs.length = 2 := hn
 have h0 := h 0 f0 rfl
 have h1 := h 1 f1 rfl;rw [List.getElem?_eq_getElem (by omega), o0, c0, List.drop_zero] at h0;rw [List.getElem?_eq_getElem (by omega), o1, c1, List.take_of_length_le (by simp; omega)] at h1;obtain ⟨x0, r0⟩ := l0 _ _ _ _ _ _ _ _ h0;obtain ⟨x1, r1⟩ := l1 _ _ _ _ _ _ _ _ h1;exact ⟨(x0, x1), .glue r0 r1⟩
theorem Lifts.struct3 {P : Program} {t : TypeId} {f0 f1 f2 : Field} {α β γ : Type} {a : En α} {b : En β} {c : En γ} (ht : P.underlying t = some (.struct #[f0, f1, f2])) (o0 : f0.offset = 0) (o1 : f1.offset = a.u) (o2 : f2.offset = a.u + b.u)
  (c0 : P.cellsOf f0.type = a.u) (c1 : P.cellsOf f1.type = b.u) (c2 : P.cellsOf f2.type = c.u) (ct : P.cellsOf t = a.u + (b.u + c.u)) (l0 : Lifts P f0.type a) (l1 : Lifts P f1.type b) (l2 : Lifts P f2.type c) :
  Lifts P t (enPair a (enPair b c)) := by
 intro H enc W base held fuel cs x hx;obtain ⟨xs, n, _, _, hl, hn, h⟩ := DataW.trod_struct ht hx
 have hn1 : xs.length = 3 := hn
 have h0 := h 0 f0 rfl
 have h1 := h 1 f1 rfl
 have h2 := h 2 f2 rfl;rw [List.getElem?_eq_getElem (by omega), o0, c0, List.drop_zero] at h0;rw [List.getElem?_eq_getElem (by omega), o1, c1] at h1;rw [List.getElem?_eq_getElem (by omega), o2, c2, ← List.drop_drop, List.take_of_length_le (by simp; omega)] at h2;obtain ⟨x0, r0⟩ := l0 _ _ _ _ _ _ _ _ h0;obtain ⟨x1, r1⟩ := l1 _ _ _ _ _ _ _ _ h1;obtain ⟨x2, r2⟩ := l2 _ _ _ _ _ _ _ _ h2;exact ⟨(x0, x1, x2), .glue r0 (.glue r1 r2)⟩
theorem Lifts.arg {P : Program} {t : TypeId} {fs : Array Field} {α : Type} {en : En α} (hl : Lifts P t en) (ht : P.underlying t = some (.struct fs)) {W : World} {r : Reach} {b0 : Nat} {v : Value} (hval : Value.okWide P W r b0 t v)
  {H : Type} {enc : TypeId × Value → H} {base : Nat} {held : Bool} {d : DataW H} {ps : List MemPlace} (h : DataW.Trod enc P W base (fun _ => true) held t v d ps) : ∃ a, RelV (snapR W 0) (.agg (en.f a)) v := by
 simp only [Value.okWide, ht] at hval;obtain ⟨cs, rfl, _, _⟩ := hval;obtain ⟨fuel, hf⟩ := h;obtain ⟨a, ha⟩ := hl _ _ _ _ _ _ _ _ hf;exact ⟨a, by simpa [Value.cells] using RelV.agg ha.1 ha.2⟩
end Go.Am
end
section
namespace Go.Am
open Go.RowKit
set_option linter.unusedVariables false
def encU16 : En UInt16 := ⟨1, fun b => [ivk .u16 (b.toNat : Int)], fun _ => rfl⟩
theorem Lifts.u8 {P : Program} {t : TypeId} (ht : P.underlying t = some (.int .u8)) : Lifts P t encU8 := by
 intro H enc W base held fuel cs x hx;obtain ⟨n, rfl, _, hw⟩ := DataW.trod_int ht hx
 have hw : 0 ≤ n ∧ n ≤ 255 := by
  have := Bool.and_eq_true_iff.1 hw;exact ⟨of_decide_eq_true this.1, of_decide_eq_true this.2⟩
 have e : ((UInt8.ofNat n.toNat).toNat : Int) = n := by rw [UInt8.toNat_ofNat']; omega
 refine ⟨UInt8.ofNat n.toNat, .cons ?_ (.nil _)⟩;rw [e];exact .lit _
theorem Lifts.u16 {P : Program} {t : TypeId} (ht : P.underlying t = some (.int .u16)) : Lifts P t encU16 := by
 intro H enc W base held fuel cs x hx;obtain ⟨n, rfl, _, hw⟩ := DataW.trod_int ht hx
 have hw : 0 ≤ n ∧ n ≤ 65535 := by
  have := Bool.and_eq_true_iff.1 hw;exact ⟨of_decide_eq_true this.1, of_decide_eq_true this.2⟩
 have e : ((UInt16.ofNat n.toNat).toNat : Int) = n := by rw [UInt16.toNat_ofNat']; omega
 refine ⟨UInt16.ofNat n.toNat, .cons ?_ (.nil _)⟩;rw [e];exact .lit _
end Go.Am
end
section
namespace Go.Am.YthckcbfijdambaaGreat
open Go.Am Go.RowKit Go.Proofs
theorem li_3 : Lifts Tryz.prog 3 encI := .int Tryz.underlying3
theorem li_107 : Lifts Tryz.prog 107 (enPair encI encI) := Lifts.struct2 Tryz.underlying107 rfl rfl (by kernel_rfl) (by kernel_rfl) (by kernel_rfl) li_3 li_3
theorem li_133 : Lifts Tryz.prog 133 encC := (Lifts.struct3 Tryz.underlying133 rfl rfl rfl (by kernel_rfl) (by kernel_rfl) (by kernel_rfl) (by kernel_rfl) li_3 li_3 li_3).map fun x => ⟨⟨x.1, x.2.1, x.2.2⟩, rfl⟩
theorem li_108 : Lifts Tryz.prog 108 (encSl encC) := .slice Tryz.underlying108 (by kernel_rfl) (by decide) li_133
theorem li_110 : Lifts Tryz.prog 110 encG := (Lifts.struct3 Tryz.underlying110 rfl rfl rfl (by kernel_rfl) (by kernel_rfl) (by kernel_rfl) (by kernel_rfl) li_107 li_3 li_108).map fun x => ⟨⟨x.1.1, x.1.2, x.2.1, x.2.2⟩, rfl⟩
theorem li_22 : Lifts Tryz.prog 22 (encSl encG) := .slice Tryz.underlying22 (by kernel_rfl) (by decide) li_110
theorem li_24 : Lifts Tryz.prog 24 encB := (Lifts.struct2 Tryz.underlying24 rfl rfl (by kernel_rfl) (by kernel_rfl) (by kernel_rfl) li_3 li_22).map fun x => ⟨⟨x.1, x.2⟩, rfl⟩
theorem li_28 : Lifts Tryz.prog 28 (encSl encI) := .slice Tryz.underlying28 (by kernel_rfl) (by decide) li_3
theorem li_54 : Lifts Tryz.prog 54 encIt := (Lifts.struct1 Tryz.underlying54 rfl (by kernel_rfl) (by kernel_rfl) li_28).map fun x => ⟨⟨x⟩, rfl⟩
theorem li_25 : Lifts Tryz.prog 25 (encSl encIt) := .slice Tryz.underlying25 (by kernel_rfl) (by decide) li_54
theorem li_27 : Lifts Tryz.prog 27 encCa := (Lifts.struct2 Tryz.underlying27 rfl rfl (by kernel_rfl) (by kernel_rfl) (by kernel_rfl) li_24 li_25).map fun x => ⟨⟨x.1, x.2⟩, rfl⟩
theorem li_37 : Lifts Tryz.prog 37 encU16 := .u16 Tryz.underlying37
theorem li_5 : Lifts Tryz.prog 5 encU8 := .u8 Tryz.underlying5
theorem li_49 : Lifts Tryz.prog 49 (encSl encU8) := .slice Tryz.underlying49 (by kernel_rfl) (by decide) li_5
end Go.Am.YthckcbfijdambaaGreat
end
section
namespace Go.Am
set_option linter.unusedVariables false
theorem i64_small {x : Int} (h : -4000000000000000000 ≤ x ∧ x ≤ 4000000000000000000) : I64 x := by unfold I64; omega
section
variable {σ ε J A β : Type}
theorem Ok.ifp {p : Prop} [Decidable p] {x y : Option β} {Q : β → Prop} (h : p) (hx : Ok x Q) : Ok (if p then x else y) Q := by rw [if_pos h]; exact hx
theorem Ok.ifn {p : Prop} [Decidable p] {x y : Option β} {Q : β → Prop} (h : ¬ p) (hy : Ok y Q) : Ok (if p then x else y) Q := by rw [if_neg h]; exact hy
theorem Ok.eq {x : Option β} {a : β} {Q : β → Prop} (h : x = Option.some a) (hq : Q a) : Ok x Q := ⟨a, h, hq⟩
theorem Ok.andx' {x : Option J} {k : J → Option β} {a : J} {Q : β → Prop} (h : x = Option.some a) (hk : Ok (k a) Q) : Ok (Am.andx x k) Q := by subst h; exact hk
def CountQ (idx : σ → Int) (I : Nat → σ → Prop) (k : Nat) (Q : ε → Prop) : Stp σ ε → Prop
 | .ag s => idx s = k + 1 ∧ I (k + 1) s
 | .dn e => Q e
def FinQ (Q : ε → Prop) : Stp σ ε → Prop
 | .ag _ => False
 | .dn e => Q e
theorem Ok.count (idx : σ → Int) (n : Nat) (I : Nat → σ → Prop) {body : σ → Option (Stp σ ε)} {s0 : σ} {Q : ε → Prop} (h0 : idx s0 = 0) (hI : I 0 s0)
  (step : ∀ k s, k < n → idx s = k → I k s → Ok (body s) (CountQ idx I k Q)) (fin : ∀ s, idx s = n → I n s → Ok (body s) (FinQ Q)) : Ok (Am.iter body s0) Q := by
 refine Ok.iter (fun s => ∃ k : Nat, k ≤ n ∧ idx s = k ∧ I k s) (fun s => n - (idx s).toNat) ⟨0, Nat.zero_le _, h0, hI⟩ ?_;rintro s ⟨k, hk, hx, hi⟩
 by_cases hlt : k < n
 ·refine (step k s hlt hx hi).mono fun x hq => ?_
  cases x with
  | ag s' =>
   have h1 : idx s' = k + 1 := hq.1;exact ⟨⟨k + 1, by omega, by rw [h1]; rfl, hq.2⟩, by show n - (idx s').toNat < n - (idx s).toNat; rw [h1, hx]; omega⟩
  | dn e => exact hq
 ·have : k = n := by omega
  subst this;refine (fin s hx hi).mono fun x hq => ?_
  cases x with
  | ag s' => exact hq.elim
  | dn e => exact hq
end
theorem get_of {α : Type} {l : List α} {k : Nat} {i : Int} {a : α} (h : l[i.toNat]? = some a) (hi : i = k) : l[k]? = some a := by rw [hi] at h; simpa using h
end Go.Am
end
section
namespace Go.Am
def cntOf (t : List Int) : Int → Int := fun x => ((t.countP fun y => decide (y = x) : Nat) : Int)
theorem cntOf_snoc (t : List Int) (n : Int) : cntOf (t ++ [n]) = putI (cntOf t) n (cntOf t n + 1) := by
 funext x
 unfold cntOf putI;rw [List.countP_append]
 by_cases h : x = n
 ·subst h; simp
 ·have : ¬ n = x := fun e => h e.symm
  simp [h, this]
theorem cntOf_le (t : List Int) (x : Int) : 0 ≤ cntOf t x ∧ cntOf t x ≤ t.length := by
 unfold cntOf
 have := List.countP_le_length (p := fun y => decide (y = x)) (l := t);omega
theorem cntOf_pos (t : List Int) (x : Int) : 0 < cntOf t x ↔ x ∈ t := by
 unfold cntOf;rw [show (0 < ((t.countP fun y => decide (y = x) : Nat) : Int)) ↔ 0 < t.countP fun y => decide (y = x) by omega, List.countP_pos_iff];simp
theorem cntOf_zero (t : List Int) (x : Int) : cntOf t x = 0 ↔ x ∉ t := by
 have := cntOf_pos t x
 have := (cntOf_le t x).1
 constructor
 ·intro h hx; have := (cntOf_pos t x).2 hx; omega
 ·intro h; have : ¬ 0 < cntOf t x := fun k => h ((cntOf_pos t x).1 k); omega
theorem there_ok {s : Int} {g : List Gat} {its : List Item} {lv : List Leaf} {mt t : List Int} (ht : t.length ≤ 1000000) : P_c_there s g its lv mt t = some (cntOf t) := by
 refine Ok.get ?_;unfold P_c_there;refine Ok.andx (P := fun f => f = cntOf t) (Ok.count Prod.fst t.length (fun k s => s.2 = cntOf (t.take k)) rfl rfl ?_ ?_) fun _ h => .some h
 ·rintro k ⟨x, f⟩ hk hx hf;simp only at hx hf;subst hf;unfold P_c_there_L1;refine .ifp (by omega) (.el (by omega) fun a ha => ?_)
  have ha := get_of ha hx
  have := cntOf_le (t.take k) a
  have : (t.take k).length ≤ t.length := by rw [List.length_take]; omega
  refine .chk (i64_small (by omega)) (.chk (i64_small (by omega)) (.some ⟨by simp only; omega, ?_⟩))
  show _ = cntOf (t.take (k + 1));rw [take_snoc ha, cntOf_snoc]
 ·rintro ⟨x, f⟩ hx hf;simp only at hx hf;unfold P_c_there_L1;refine .ifn (by omega) (.some ?_)
  show _ = _;rw [hf, List.take_length]
def lostOf (n : Nat) (t : List Int) : List Int := ((List.range n).map fun i : Nat => (i : Int)).filter fun x => decide (x ∉ t)
theorem lostOf_succ (n : Nat) (t : List Int) : lostOf (n + 1) t = if (n : Int) ∉ t then lostOf n t ++ [(n : Int)] else lostOf n t := by
 unfold lostOf;rw [List.range_succ, List.map_append, List.filter_append]
 by_cases h : (n : Int) ∈ t <;> simp [h]
theorem lostOf_len (n : Nat) (t : List Int) : (lostOf n t).length ≤ n := by
 unfold lostOf;exact Nat.le_trans (List.length_filter_le _ _) (by simp)
theorem lost_ok {s : Int} {g : List Gat} {its : List Item} {lv : List Leaf} {mt t : List Int} (ht : t.length ≤ 1000000) (hl : lv.length ≤ 1000000) : P_c_lost s g its lv mt t = some (lostOf lv.length t) := by
 refine Ok.get ?_;unfold P_c_lost;refine .andx' (there_ok ht) ?_;refine Ok.andx (P := fun l => l = lostOf lv.length t) (Ok.count Prod.fst lv.length (fun k s => s.2 = lostOf k t) rfl rfl ?_ ?_) fun _ h => .some h
 ·rintro k ⟨x, l⟩ hk hx hl';simp only at hx hl';subst hl'
  have hlen := lostOf_len k t;unfold P_c_lost_L1;refine .ifp (by omega) (Ok.andx (P := fun l => l = lostOf (k + 1) t) ?_ ?_)
  ·refine .ite (fun hc => ?_) (fun hc => ?_)
   ·refine .chk (by simp; omega) (.some ?_)
    show _ = _;rw [lostOf_succ, if_pos (by rw [← hx]; exact (cntOf_zero t x).1 hc), hx]
   ·refine .some ?_
    show _ = _;rw [lostOf_succ, if_neg (by rw [← hx]; exact fun h => hc ((cntOf_zero t x).2 h))]
  ·rintro l' rfl;exact .chk (i64_small (by omega)) (.some ⟨by simp only; omega, rfl⟩)
 ·rintro ⟨x, l⟩ hx hl';simp only at hx hl';unfold P_c_lost_L1;exact .ifn (by omega) (.some hl')
end Go.Am
end
section
namespace Go.Am
set_option linter.unusedVariables false
def idxTo (p : Nat → Int → Bool) (t : List Int) : Nat → List Int
 | 0 => []
 | k + 1 => idxTo p t k ++ (match t[k]? with | some n => if p k n = true then [(k : Int)] else [] | none => [])
theorem idxTo_succ {p : Nat → Int → Bool} {t : List Int} {k : Nat} {n : Int} (h : t[k]? = some n) : idxTo p t (k + 1) = if p k n = true then idxTo p t k ++ [(k : Int)] else idxTo p t k := by
 rw [idxTo, h];simp only;split <;> simp
theorem idxTo_len (p : Nat → Int → Bool) (t : List Int) : ∀ k, (idxTo p t k).length ≤ k := by
 intro k
 induction k with
 | zero => simp [idxTo]
 | succ k ih =>
  rw [idxTo, List.length_append];split
  ·split <;> simp <;> omega
  ·simp; omega
def isPlain (t : List Int) (k : Nat) (n : Int) : Bool := decide (0 ≤ n ∧ n ∉ t.take k)
def isStrange (k : Nat) (n : Int) : Bool := decide (n < 0)
def isTwice (t : List Int) (k : Nat) (n : Int) : Bool := decide (0 ≤ n ∧ n ∈ t.take k)
def strangeOf (t : List Int) : List Int := idxTo isStrange t t.length
def twiceOf (t : List Int) : List Int := idxTo (isTwice t) t t.length
def gathOf (lv : List Leaf) (x : Int) : Int := match lv[x.toNat]? with | some a => a.g | none => 0
def rnStep (g : Int → Int) (l : List S_copy_run) (i n : Int) : List S_copy_run :=
 match l[l.length - 1]? with
 | some r => if r.last < n ∧ g r.last = g n then l.set (l.length - 1) ⟨r.item, r.first, n⟩ else l ++ [⟨i, n, n⟩]
 | none => l ++ [⟨i, n, n⟩]
def runsTo (g : Int → Int) (t : List Int) : Nat → List S_copy_run
 | 0 => []
 | k + 1 => match t[k]? with | some n => if isPlain t k n = true then rnStep g (runsTo g t k) k n else runsTo g t k | none => runsTo g t k
def runsOf (g : Int → Int) (t : List Int) : List S_copy_run := runsTo g t t.length
def RunOk (n : Nat) (r : S_copy_run) : Prop := 0 ≤ r.first ∧ r.first < n ∧ 0 ≤ r.last ∧ r.last < n
theorem rnStep_ok {g : Int → Int} {l : List S_copy_run} {i n : Int} {N : Nat} (h : ∀ r ∈ l, RunOk N r) (hn : 0 ≤ n ∧ n < N) : ∀ r ∈ rnStep g l i n, RunOk N r := by
 unfold rnStep
 have happ : ∀ r ∈ l ++ [(⟨i, n, n⟩ : S_copy_run)], RunOk N r := fun r hr => by
  rcases List.mem_append.1 hr with hr | hr
  ·exact h r hr
  ·rw [List.mem_singleton] at hr;subst hr;exact ⟨hn.1, hn.2, hn.1, hn.2⟩
 split
 ·rename_i r hr
  split
  ·intro x hx
   rcases List.mem_or_eq_of_mem_set hx with hx | rfl
   ·exact h x hx
   ·have := h r (List.mem_of_getElem? hr);exact ⟨this.1, this.2.1, hn.1, hn.2⟩
  ·exact happ
 ·exact happ
theorem rnStep_len {g : Int → Int} {l : List S_copy_run} {i n : Int} : (rnStep g l i n).length ≤ l.length + 1 := by
 unfold rnStep;split
 ·split <;> simp
 ·simp
theorem runsTo_ok {g : Int → Int} {t : List Int} {N : Nat} (ht : ∀ x ∈ t, x < N) : ∀ k, (∀ r ∈ runsTo g t k, RunOk N r) ∧ (runsTo g t k).length ≤ k := by
 intro k
 induction k with
 | zero => simp [runsTo]
 | succ k ih =>
  rw [runsTo];split
  ·rename_i n hn
   split
   ·rename_i hp
    have h0 : 0 ≤ n := (of_decide_eq_true hp).1;refine ⟨rnStep_ok ih.1 ⟨h0, ht _ (List.mem_of_getElem? hn)⟩, ?_⟩
    have := rnStep_len (g := g) (l := runsTo g t k) (i := k) (n := n);omega
   ·exact ⟨ih.1, by omega⟩
  ·exact ⟨ih.1, by omega⟩
theorem runsTo_succ {g : Int → Int} {t : List Int} {k : Nat} {n : Int} (h : t[k]? = some n) : runsTo g t (k + 1) = if isPlain t k n = true then rnStep g (runsTo g t k) k n else runsTo g t k := by rw [runsTo, h]
def follow (last : Int) (ps : List (S_copy_run × Int)) (a : Int) : Int := ps.foldl (fun a p => if p.1.first > last then max a p.2 else a) a
def chains : List S_copy_run → List Int
 | [] => []
 | r :: l => (follow r.last (l.zip (chains l)) 0 + 1) :: chains l
theorem chains_len : ∀ l, (chains l).length = l.length := by
 intro l
 induction l with
 | nil => rfl
 | cons r l ih => simp [chains, ih]
theorem follow_bounds {last : Int} {M : Int} : ∀ (ps : List (S_copy_run × Int)) (a : Int), (∀ p ∈ ps, p.2 ≤ M) → a ≤ M → a ≤ follow last ps a ∧ follow last ps a ≤ M := by
 intro ps
 induction ps with
 | nil => intro a _ h; exact ⟨Int.le_refl _, h⟩
 | cons p ps ih =>
  intro a h ha
  have hp := h p List.mem_cons_self
  have ht : ∀ p ∈ ps, p.2 ≤ M := fun q hq => h q (List.mem_cons_of_mem _ hq)
  show a ≤ follow last ps (if p.1.first > last then max a p.2 else a) ∧ _;split
  ·have := ih (max a p.2) ht (by omega);exact ⟨by omega, by rw [follow, List.foldl_cons]; rename_i hc; rw [if_pos hc]; exact this.2⟩
  ·have := ih a ht ha;exact ⟨this.1, by rw [follow, List.foldl_cons]; rename_i hc; rw [if_neg hc]; exact this.2⟩
theorem chains_bounds : ∀ (l : List S_copy_run), ∀ m ∈ chains l, 1 ≤ m ∧ m ≤ l.length := by
 intro l
 induction l with
 | nil => intro m h; cases h
 | cons r l ih =>
  intro m h;rw [chains] at h
  rcases List.mem_cons.1 h with rfl | h
  ·have := follow_bounds (last := r.last) (M := l.length) (l.zip (chains l)) 0 (fun p hp => (ih p.2 (List.of_mem_zip hp).2).2) (by omega);rw [List.length_cons];omega
  ·have := ih m h;rw [List.length_cons];omega
def top : List Int → Int
 | [] => 0
 | m :: ms => max (top ms) m
theorem top_bounds {M : Int} (hM : 0 ≤ M) : ∀ l : List Int, (∀ m ∈ l, m ≤ M) → 0 ≤ top l ∧ top l ≤ M := by
 intro l
 induction l with
 | nil => intro _; exact ⟨Int.le_refl _, hM⟩
 | cons a l ih =>
  intro h
  have := ih fun m hm => h m (List.mem_cons_of_mem _ hm)
  have := h a List.mem_cons_self;rw [top];omega
def movedFrom : List (S_copy_run × Int) → Int → Int → List Int
 | [], _, _ => []
 | p :: ps, b, last => if p.2 = b ∧ p.1.first > last then movedFrom ps (b - 1) p.1.last else p.1.item :: movedFrom ps b last
def movedOf (l : List S_copy_run) : List Int := movedFrom (l.zip (chains l)) (top (chains l)) (-1)
theorem movedFrom_len : ∀ (ps : List (S_copy_run × Int)) (b last : Int), (movedFrom ps b last).length ≤ ps.length := by
 intro ps
 induction ps with
 | nil => intro b last; exact Nat.le_refl _
 | cons p ps ih =>
  intro b last;rw [movedFrom];split
  ·have := ih (b - 1) p.1.last;rw [List.length_cons]; omega
  ·have := ih b last;rw [List.length_cons, List.length_cons]; omega
theorem movedOf_len (l : List S_copy_run) : (movedOf l).length ≤ l.length := by
 have := movedFrom_len (l.zip (chains l)) (top (chains l)) (-1);unfold movedOf;rw [List.length_zip, chains_len] at this;omega
def row (l : List S_copy_run) (i : Nat) : List Int := List.replicate i 0 ++ (chains (l.drop i) ++ List.replicate (120 - l.length) 0)
theorem row_len {l : List S_copy_run} {i : Nat} (h : l.length ≤ 120) (hi : i ≤ l.length) : (row l i).length = 120 := by
 unfold row;rw [List.length_append, List.length_append, List.length_replicate, List.length_replicate, chains_len, List.length_drop];omega
theorem row_get {l : List S_copy_run} {i k : Nat} (hk : i ≤ k) (hl : k < l.length) : (row l i)[k]? = (chains (l.drop i))[k - i]? := by
 unfold row;rw [List.getElem?_append_right (by rw [List.length_replicate]; exact hk), List.length_replicate, List.getElem?_append_left (by rw [chains_len, List.length_drop]; omega)]
theorem inner_ok {l : List S_copy_run} {i : Nat} {r : S_copy_run} (hl : l.length ≤ 120) (hr : l[i]? = some r) :
  iter (P_c_moved_L2 l i) (((i : Int) + 1), row l (i + 1)) = some ((row l (i + 1)).set i (follow r.last ((l.drop (i + 1)).zip (chains (l.drop (i + 1)))) 0)) := by
 have hi : i < l.length := (List.getElem?_eq_some_iff.1 hr).1;refine Ok.get ?_
 have hz : (row l (i + 1))[i]? = some 0 := by
  unfold row;rw [List.getElem?_append_left (by rw [List.length_replicate]; omega)];simp
 have hset0 : (row l (i + 1)).set i 0 = row l (i + 1) := by
  obtain ⟨h1, h2⟩ := List.getElem?_eq_some_iff.1 hz;rw [← h2, List.set_getElem_self]
 have hrl := row_len hl (show i + 1 ≤ l.length by omega);refine Ok.count (fun s => s.1 - ((i : Int) + 1)) (l.length - (i + 1)) (fun k s => s.2 = (row l (i + 1)).set i (follow r.last (((l.drop (i + 1)).zip (chains (l.drop (i + 1)))).take k) 0)) (by simp only; omega) (by simp only [List.take_zero]; exact hset0.symm) ?_ ?_
 ·rintro k ⟨kk, many⟩ hk hx hm;simp only at hx hm
  have hkk : kk = ((i + 1 + k : Nat) : Int) := by omega
  subst hkk;subst hm
  have hlen : ((row l (i + 1)).set i (follow r.last (((l.drop (i + 1)).zip (chains (l.drop (i + 1)))).take k) 0)).length = 120 := by rw [List.length_set, hrl]
  have hd : (l.drop (i + 1))[k]? = l[i + 1 + k]? := by rw [List.getElem?_drop]
  have hck : k < (chains (l.drop (i + 1))).length := by rw [chains_len, List.length_drop]; omega
  have hdk : k < (l.drop (i + 1)).length := by rw [List.length_drop]; omega
  have hzip : ((l.drop (i + 1)).zip (chains (l.drop (i + 1))))[k]? = some ((l.drop (i + 1))[k], (chains (l.drop (i + 1)))[k]) := by
   rw [List.getElem?_zip_eq_some];exact ⟨List.getElem?_eq_getElem hdk, List.getElem?_eq_getElem hck⟩
  have hf : follow r.last (((l.drop (i + 1)).zip (chains (l.drop (i + 1)))).take (k + 1)) 0 = (if (l.drop (i + 1))[k].first > r.last then max (follow r.last (((l.drop (i + 1)).zip (chains (l.drop (i + 1)))).take k) 0) (chains (l.drop (i + 1)))[k] else follow r.last (((l.drop (i + 1)).zip (chains (l.drop (i + 1)))).take k) 0) := by
   rw [take_snoc hzip, follow, List.foldl_append];rfl
  have hri : (row l (i + 1))[i + 1 + k]? = some (chains (l.drop (i + 1)))[k] := by
   rw [row_get (by omega) (by omega), show i + 1 + k - (i + 1) = k by omega, List.getElem?_eq_getElem hck]
  have hA : l[i + 1 + k]? = some (l.drop (i + 1))[k] := by rw [← hd, List.getElem?_eq_getElem hdk]
  generalize hF : follow r.last (((l.drop (i + 1)).zip (chains (l.drop (i + 1)))).take k) 0 = F at *;unfold P_c_moved_L2;refine .ifp (by omega) (Ok.andx (P := fun m => m = (row l (i + 1)).set i (follow r.last (((l.drop (i + 1)).zip (chains (l.drop (i + 1)))).take (k + 1)) 0)) ?_ ?_)
  ·refine .el (by omega) fun a ha => ?_
   have ha := get_of ha rfl;rw [hA] at ha;cases ha;refine .el (by omega) fun b hb => ?_
   have hb := get_of hb rfl;rw [hr] at hb;cases hb;refine .ite (fun hc => ?_) (fun hc => ?_)
   ·refine .chk (by rw [hlen]; rfl) (.el (by rw [hlen]; omega) fun x hx1 => ?_)
    have hx1 := get_of hx1 rfl;rw [List.getElem?_set_self (by rw [hrl]; omega)] at hx1;cases hx1;refine .chk (by rw [hlen]; rfl) (.el (by rw [hlen]; omega) fun y hy1 => ?_)
    have hy1 := get_of hy1 rfl;rw [List.getElem?_set_ne (by omega), hri] at hy1;cases hy1;refine .chk (by rw [hlen]; rfl) (.el (by rw [hlen]; omega) fun w hw1 => .some ?_)
    show _ = _;rw [hf, if_pos hc, Int.toNat_natCast, List.set_set]
   ·refine .some ?_
    show _ = _;rw [hf, if_neg hc]
  ·rintro m rfl;exact .chk (i64_small (by omega)) (.some ⟨by simp only; omega, rfl⟩)
 ·rintro ⟨kk, many⟩ hx hm;simp only at hx hm;unfold P_c_moved_L2;refine .ifn (by omega) (.some ?_)
  show many = _;rw [hm, List.take_of_length_le (by rw [List.length_zip, chains_len, List.length_drop]; omega)]
theorem row_step {l : List S_copy_run} {i : Nat} {r : S_copy_run} (hr : l[i]? = some r) : (row l (i + 1)).set i (follow r.last ((l.drop (i + 1)).zip (chains (l.drop (i + 1)))) 0 + 1) = row l i := by
 have e : List.replicate (i + 1) (0 : Int) = List.replicate i 0 ++ [0] := List.replicate_succ';unfold row;rw [e, List.append_assoc, List.set_append_right _ _ (by rw [List.length_replicate]; omega), List.length_replicate, Nat.sub_self, drop_cons hr, chains];rfl
theorem moved_ok {l : List S_copy_run} {N : Nat} (hl : l.length ≤ 120) (hr : ∀ r ∈ l, RunOk N r) : P_c_moved l = some (movedOf l) := by
 refine Ok.get ?_;unfold P_c_moved
 have hcb := chains_bounds;refine Ok.andx (P := fun s => s = (top (chains l), row l 0)) (.chk (i64_small (by omega)) ?_) ?_
 ·refine Ok.count (fun s => ((l.length : Int) - 1) - s.2.1) l.length (fun k s => s.1 = top (chains (l.drop (l.length - k))) ∧ s.2.2 = row l (l.length - k)) (by simp only; omega) ⟨by simp [chains, top], ?_⟩ ?_ ?_
  ·simp only [Nat.sub_zero, row, List.drop_length, chains, List.nil_append];rw [List.replicate_append_replicate, show l.length + (120 - l.length) = 120 by omega]
  ·rintro k ⟨best, i, many⟩ hk hx ⟨hb, hm⟩;simp only at hx hb hm;obtain ⟨j, hj⟩ : ∃ j : Nat, j = l.length - 1 - k := ⟨_, rfl⟩
   have hi : i = (j : Int) := by omega
   subst hi
   have hjl : j < l.length := by omega
   obtain ⟨r, hrj⟩ : ∃ r, l[j]? = some r := ⟨_, List.getElem?_eq_getElem hjl⟩
   have e1 : l.length - k = j + 1 := by omega
   have e2 : l.length - (k + 1) = j := by omega
   rw [e1] at hb hm;subst hb hm
   have hset : ∀ x, (((row l (j + 1)).set j x).length : Int) * 1 = 120 := fun x => by rw [List.length_set, row_len hl (by omega)]; rfl
   have hch : chains (l.drop j) = (follow r.last ((l.drop (j + 1)).zip (chains (l.drop (j + 1)))) 0 + 1) :: chains (l.drop (j + 1)) := by rw [drop_cons hrj, chains]
   have hbd := hcb (l.drop j) (follow r.last ((l.drop (j + 1)).zip (chains (l.drop (j + 1)))) 0 + 1) (by rw [hch]; exact List.mem_cons_self)
   have hld : (l.drop j).length ≤ 120 := by rw [List.length_drop]; omega
   generalize hF : follow r.last ((l.drop (j + 1)).zip (chains (l.drop (j + 1)))) 0 = F at *;unfold P_c_moved_L1;refine .ifp (by omega) (Ok.andx (P := fun s => s = (top (chains (l.drop j)), row l j)) ?_ ?_)
   ·refine Ok.andx' (a := (row l (j + 1)).set j F) ?_ ?_
    ·have := inner_ok hl hrj;rw [hF] at this;rw [chk_pos (i64_small (by omega))];exact this
    ·refine .chk (hset _) (.el (by rw [List.length_set, row_len hl (by omega)]; omega) fun a ha => ?_)
     have ha := get_of ha rfl;rw [List.getElem?_set_self (by rw [row_len hl (by omega)]; omega)] at ha;cases ha;refine .chk (i64_small (by omega)) (.chk (hset _) (.el (by rw [List.length_set, row_len hl (by omega)]; omega) fun b hb => ?_));rw [Int.toNat_natCast, List.set_set];refine .chk (hset _) (.el (by rw [List.length_set, row_len hl (by omega)]; omega) fun c hc => .some ?_)
     have hc := get_of hc rfl;rw [List.getElem?_set_self (by rw [row_len hl (by omega)]; omega)] at hc;cases hc
     show _ = _
     have := row_step hrj;rw [hF] at this;rw [hch, top, this]
   ·rintro s rfl;refine .chk (i64_small (by omega)) (.some ⟨by simp only; omega, ?_, ?_⟩)
    ·simp only [e2]
    ·simp only [e2]
  ·rintro ⟨best, i, many⟩ hx ⟨hb, hm⟩;simp only at hx hb hm;unfold P_c_moved_L1;refine .ifn (by omega) (.some ?_)
   show _ = _;rw [hb, hm, Nat.sub_self, List.drop_zero]
 ·rintro s rfl
  have hrow : ∀ k (hk : k < l.length), (row l 0)[k]? = some ((chains l)[k]'(by rw [chains_len]; exact hk)) := fun k hk => by
   rw [row_get (Nat.zero_le _) hk, List.drop_zero, Nat.sub_zero, List.getElem?_eq_getElem (by rw [chains_len]; exact hk)]
  have hl120 := row_len hl (Nat.zero_le _)
  have htop := top_bounds (M := 120) (by omega) (chains l) fun m hm => by have := hcb l m hm; omega
  refine Ok.andx (P := fun s : Int × Int × Int × List Int => s.2.2.2 = movedOf l) (Ok.count (fun s : Int × Int × List Int × Int × Int × Int => s.2.1) l.length (fun k s => movedOf l = s.2.2.1 ++ movedFrom ((l.zip (chains l)).drop k) s.1 s.2.2.2.2.2 ∧ s.2.2.1.length ≤ k ∧ -200 - (k : Int) ≤ s.1 ∧ s.1 ≤ 120 ∧ (s.2.2.2 = (-1, -1, -1) ∨ 0 ≤ s.2.2.2.2.1 ∧ 0 ≤ s.2.2.2.2.2)) rfl ⟨by simp only [List.nil_append, List.drop_zero]; rfl, Nat.le_refl _, by simp only; omega, by simp only; omega, .inl rfl⟩ ?_ ?_) ?_
  ·rintro k ⟨best, x, items, li, lf, ll⟩ hk hx ⟨h1, h2, h3, h4, h5⟩;simp only at hx h1 h2 h3 h4 h5;subst hx
   have hck : k < (chains l).length := by rw [chains_len]; exact hk
   have hzip : (l.zip (chains l))[k]? = some (l[k], (chains l)[k]) := by
    rw [List.getElem?_zip_eq_some];exact ⟨List.getElem?_eq_getElem hk, List.getElem?_eq_getElem hck⟩
   have hrk := hr l[k] (List.getElem_mem hk);rw [drop_cons hzip, movedFrom] at h1;simp only at h1;unfold P_c_moved_L3;refine .ifp (by omega) (Ok.andx (P := fun s : Int × List Int × Int × Int × Int => movedOf l = s.2.1 ++ movedFrom ((l.zip (chains l)).drop (k + 1)) s.1 s.2.2.2.2 ∧ s.2.1.length ≤ k + 1 ∧ -200 - ((k : Int) + 1) ≤ s.1 ∧ s.1 ≤ 120 ∧ (s.2.2 = (-1, -1, -1) ∨ 0 ≤ s.2.2.2.1 ∧ 0 ≤ s.2.2.2.2)) ?_ ?_)
   ·refine .el (by omega) fun a ha => ?_
    have ha := get_of ha rfl;rw [List.getElem?_eq_getElem hk] at ha;cases ha;refine Ok.andx (P := fun b : Bool => b = true ↔ ((chains l)[k] = best ∧ l[k].first > ll)) ?_ ?_
    ·refine .chk (by rw [hl120]; rfl) (.el (by rw [hl120]; omega) fun m hm => ?_)
     have hm := get_of hm rfl;rw [hrow k hk] at hm;cases hm;refine .ite (fun hc => ?_) (fun hc => ?_)
     ·refine .ite (fun hd => ?_) (fun hd => ?_)
      ·exact .some (by simp only [true_iff]; exact ⟨hc, by rw [hd.2.2]; have := hrk.1; omega⟩)
      ·exact .some (by rw [decide_eq_true_iff]; exact ⟨fun h => ⟨hc, h⟩, fun h => h.2⟩)
     ·exact .some (by simp only [Bool.false_eq_true, false_iff]; exact fun h => hc h.1)
    ·rintro b hb;refine .ite (fun hc => ?_) (fun hc => ?_)
     ·rw [if_pos (hb.1 hc)] at h1;exact .chk (i64_small (by omega)) (.some ⟨h1, by simp only; omega, by simp only; omega, by simp only; omega, .inr ⟨hrk.1, hrk.2.2.1⟩⟩)
     ·rw [if_neg (fun h => hc (hb.2 h))] at h1;refine .chk (by simp; omega) (.some ⟨?_, by simp; omega, by simp only; omega, by simp only; omega, h5⟩);simp only;rw [h1, List.append_assoc];rfl
   ·rintro ⟨b', it', li', lf', ll'⟩ ⟨q1, q2, q3, q4, q5⟩;exact .chk (i64_small (by omega)) (.some ⟨rfl, q1, q2, by simp only at q3 ⊢; omega, q4, q5⟩)
  ·rintro ⟨best, x, items, li, lf, ll⟩ hx ⟨h1, h2, h3, h4, h5⟩;simp only at hx h1;unfold P_c_moved_L3;refine .ifn (by omega) (.some ?_)
   show items = _;rw [h1, List.drop_eq_nil_of_le (by rw [List.length_zip, chains_len]; omega), movedFrom, List.append_nil]
  ·rintro ⟨a, b, c, d⟩ h;exact .some h
end Go.Am
end
section
namespace Go.Am
set_option linter.unusedVariables false
def mateF (mt : List Int) (x : Int) : Int := match mt[x.toNat]? with | some m => m | none => -1
def isPiece (mt gone : List Int) (x : Int) : Bool := decide (mateF mt x < 0 ∨ mateF mt x > x ∨ mateF mt x ∉ gone)
def piecesOf (mt gone : List Int) : Int := (gone.countP (isPiece mt gone) : Nat)
theorem piecesOf_le (mt gone : List Int) : 0 ≤ piecesOf mt gone ∧ piecesOf mt gone ≤ gone.length := by
 unfold piecesOf
 have := List.countP_le_length (p := isPiece mt gone) (l := gone);omega
theorem mem_lostOf {n : Nat} {t : List Int} {x : Int} : x ∈ lostOf n t ↔ 0 ≤ x ∧ x < n ∧ x ∉ t := by
 unfold lostOf;simp only [List.mem_filter, List.mem_map, List.mem_range, decide_eq_true_eq]
 constructor
 ·rintro ⟨⟨i, hi, rfl⟩, h⟩; exact ⟨by omega, by omega, h⟩
 ·rintro ⟨h0, h1, h2⟩; exact ⟨⟨x.toNat, by omega, by omega⟩, h2⟩
theorem lostOf_sorted (n : Nat) (t : List Int) : (lostOf n t).Pairwise (· < ·) := by
 induction n with
 | zero => exact .nil
 | succ n ih =>
  rw [lostOf_succ];split
  ·rw [List.pairwise_append];refine ⟨ih, List.pairwise_singleton _ _, fun a ha b hb => ?_⟩;rw [List.mem_singleton] at hb;subst hb;exact (mem_lostOf.1 ha).2.1
  ·exact ih
theorem sorted_take {l : List Int} (hs : l.Pairwise (· < ·)) {k : Nat} {a x : Int} (ha : l[k]? = some a) : x ∈ l.take (k + 1) ↔ x ∈ l ∧ x ≤ a := by
 obtain ⟨hk, rfl⟩ := List.getElem?_eq_some_iff.1 ha;rw [List.pairwise_iff_getElem] at hs
 constructor
 ·intro h;refine ⟨List.mem_of_mem_take h, ?_⟩;obtain ⟨j, hj, rfl⟩ := List.mem_iff_getElem.1 h;rw [List.getElem_take];rw [List.length_take] at hj
  by_cases e : j = k
  ·subst e; exact Int.le_refl _
  ·exact Int.le_of_lt (hs j k (by omega) hk (by omega))
 ·rintro ⟨h, hle⟩;obtain ⟨j, hj, rfl⟩ := List.mem_iff_getElem.1 h
  have hjk : j ≤ k := by
   by_cases e : j ≤ k
   ·exact e
   ·have := hs k j hk hj (by omega); omega
  exact List.mem_iff_getElem.2 ⟨j, by rw [List.length_take]; omega, by rw [List.getElem_take]⟩
theorem pieces_ok {mt gone : List Int} (hs : gone.Pairwise (· < ·)) (hr : ∀ x ∈ gone, 0 ≤ x ∧ x < mt.length) (hl : gone.length ≤ 1000000) :
  ∃ m, iter (P_c_faults_L1 mt gone) (0, (fun _ => 0), 0) = some (m, piecesOf mt gone) := by
 suffices h : Ok (iter (P_c_faults_L1 mt gone) (0, (fun _ => 0), 0)) (fun s => s.2 = piecesOf mt gone) by
  obtain ⟨⟨m, p⟩, h1, h2⟩ := h;exact ⟨m, by rw [h1, ← h2]⟩
 refine Ok.count (fun s => s.1) gone.length (fun k (s : Int × (Int → Int) × Int) => s.2.1 = cntOf (gone.take k) ∧ s.2.2 = (((gone.take k).countP (isPiece mt gone) : Nat) : Int)) rfl ⟨rfl, rfl⟩ ?_ ?_
 ·rintro k ⟨x, m, fp⟩ hk hx ⟨hm, hp⟩;simp only at hx hm hp;subst hx hm hp;unfold P_c_faults_L1
  have hcl := List.countP_le_length (p := isPiece mt gone) (l := gone.take k)
  have htl : (gone.take k).length ≤ 1000000 := by rw [List.length_take]; omega
  refine .ifp (by omega) (Ok.andx (P := fun s : (Int → Int) × Int => s.1 = cntOf (gone.take (k + 1)) ∧ s.2 = (((gone.take (k + 1)).countP (isPiece mt gone) : Nat) : Int)) ?_ ?_)
  ·refine .el (by omega) fun a ha => ?_
   have ha := get_of ha rfl
   have har := hr a (List.mem_of_getElem? ha);refine .el har fun b hb => ?_
   have hmf : mateF mt a = b := by unfold mateF; rw [hb]
   have hc := cntOf_le (gone.take k) a
   have hsn : putI (cntOf (gone.take k)) a (cntOf (gone.take k) a + 1) = cntOf (gone.take (k + 1)) := by rw [take_snoc ha, cntOf_snoc]
   have hcp : (gone.take (k + 1)).countP (isPiece mt gone) = (gone.take k).countP (isPiece mt gone) + (if isPiece mt gone a = true then 1 else 0) := by
    rw [take_snoc ha, List.countP_append, List.countP_singleton]
   refine .chk (i64_small (by omega)) (Ok.andx (P := fun c : Bool => c = true ↔ isPiece mt gone a = true) ?_ ?_)
   ·rw [hsn];unfold isPiece;rw [hmf, decide_eq_true_iff];refine .ite (fun h => .some ?_) (fun h => .some ?_)
    ·simp only [true_iff]; exact .inl h
    ·rw [decide_eq_true_iff, cntOf_zero, sorted_take hs ha]
     constructor
     ·intro h2
      by_cases hb2 : b ∈ gone
      ·exact .inr (.inl (by have : ¬ b ≤ a := fun h3 => h2 ⟨hb2, h3⟩; omega))
      ·exact .inr (.inr hb2)
     ·rintro (h2 | h2 | h2) ⟨h3, h4⟩
      ·exact h h2
      ·omega
      ·exact h2 h3
   ·rintro c hcc;rw [hsn];refine .ite (fun h => ?_) (fun h => ?_)
    ·refine .chk (i64_small (by omega)) (.some ⟨rfl, ?_⟩);simp only;rw [hcp, if_pos (hcc.1 h)];rfl
    ·refine .some ⟨rfl, ?_⟩;simp only;rw [hcp, if_neg (fun e => h (hcc.2 e))];rfl
  ·rintro ⟨m', p'⟩ ⟨h1, h2⟩;exact .chk (i64_small (by omega)) (.some ⟨rfl, h1, h2⟩)
 ·rintro ⟨x, m, fp⟩ hx ⟨hm, hp⟩;simp only at hx hm hp;unfold P_c_faults_L1;refine .ifn (by omega) (.some ?_)
  show fp = _;rw [hp, List.take_length]; rfl
def TruthIn (n : Nat) (t : List Int) : Prop := ∀ x ∈ t, x < n
theorem runs_loop {lv : List Leaf} {t : List Int} (ht : t.length ≤ 120) (hin : TruthIn lv.length t) :
  ∃ m, iter (P_c_faults_L2 lv t) (0, [], [], [], (fun _ => 0)) = some (m, runsOf (gathOf lv) t, strangeOf t, twiceOf t) := by
 suffices h : Ok (iter (P_c_faults_L2 lv t) (0, [], [], [], (fun _ => 0))) (fun s => s.2 = (runsOf (gathOf lv) t, strangeOf t, twiceOf t)) by
  obtain ⟨⟨m, p⟩, h1, h2⟩ := h;exact ⟨m, by rw [h1, ← h2]⟩
 refine Ok.count (fun s => s.1) t.length (fun k s => s.2.1 = runsTo (gathOf lv) t k ∧ s.2.2.1 = idxTo isStrange t k ∧ s.2.2.2.1 = idxTo (isTwice t) t k ∧ ∀ a, 0 ≤ a → s.2.2.2.2 a = cntOf (t.take k) a) rfl ⟨rfl, rfl, rfl, fun a _ => by simp [cntOf]⟩ ?_ ?_
 ·rintro k ⟨x, l, st, tw, m⟩ hk hx ⟨hl, hst, htw, hm⟩;simp only at hx hl hst htw hm;subst hx hl hst htw
  have hro := runsTo_ok (g := gathOf lv) hin k
  have hs1 := idxTo_len isStrange t k
  have hs2 := idxTo_len (isTwice t) t k;unfold P_c_faults_L2;refine .ifp (by omega) (Ok.andx (P := fun s : List S_copy_run × List Int × List Int × (Int → Int) => s.1 = runsTo (gathOf lv) t (k + 1) ∧ s.2.1 = idxTo isStrange t (k + 1) ∧ s.2.2.1 = idxTo (isTwice t) t (k + 1) ∧ ∀ a, 0 ≤ a → s.2.2.2 a = cntOf (t.take (k + 1)) a) ?_ ?_)
  ·refine .el (by omega) fun n hn => ?_
   have hn := get_of hn rfl
   have hnl := hin n (List.mem_of_getElem? hn);rw [runsTo_succ hn, idxTo_succ hn, idxTo_succ hn];refine .ite (fun h0 => ?_) (fun h0 => ?_)
   ·have e1 : isPlain t k n = false := decide_eq_false (by omega)
    have e2 : isStrange k n = true := decide_eq_true h0
    have e3 : isTwice t k n = false := decide_eq_false (by omega);rw [e1, e2, e3];refine .chk (by simp; omega) (.some ⟨rfl, rfl, rfl, fun a ha => ?_⟩);simp only;rw [hm a ha, take_snoc hn, cntOf_snoc, putI_ne (by omega)]
   ·have hc := cntOf_le (t.take k) n
    have htl : (t.take k).length ≤ 120 := by rw [List.length_take]; omega
    have hmn := hm n (by omega)
    have e2 : isStrange k n = false := decide_eq_false h0;rw [e2]
    have hm' : ∀ a, 0 ≤ a → putI m n (m n + 1) a = cntOf (t.take (k + 1)) a := fun a ha => by
     rw [take_snoc hn, cntOf_snoc]
     by_cases e : a = n
     ·subst e; rw [putI_same, putI_same, hmn]
     ·rw [putI_ne e, putI_ne e, hm a ha]
    refine .chk (i64_small (by omega)) (.ite (fun h1 => ?_) (fun h1 => ?_))
    ·rw [putI_same, hmn] at h1
     have hin' := (cntOf_pos (t.take k) n).1 (by omega)
     have e1 : isPlain t k n = false := decide_eq_false (fun h => h.2 hin')
     have e3 : isTwice t k n = true := decide_eq_true ⟨by omega, hin'⟩;rw [e1, e3];exact .chk (by simp; omega) (.some ⟨rfl, rfl, rfl, hm'⟩)
    ·rw [putI_same, hmn] at h1
     have hin' : n ∉ t.take k := fun h => h1 (by have := (cntOf_pos (t.take k) n).2 h; omega)
     have e1 : isPlain t k n = true := decide_eq_true ⟨by omega, hin'⟩
     have e3 : isTwice t k n = false := decide_eq_false (fun h => hin' h.2);rw [e1, e3];generalize hL : runsTo (gathOf lv) t k = L at *;refine Ok.seqx ?_;refine .chk (i64_small (by omega)) (Ok.andx (P := fun b : Bool => (b = true ∧ ∃ r, L[L.length - 1]? = some r ∧ r.last < n ∧ gathOf lv r.last = gathOf lv n) ∨ (b = false ∧ rnStep (gathOf lv) L k n = L ++ [⟨k, n, n⟩])) ?_ ?_)
     ·refine .ite (fun h2 => ?_) (fun h2 => ?_)
      ·refine .el (by omega) fun r hr => ?_
       have hr : L[L.length - 1]? = some r := get_of hr (by omega)
       have hrk := hro.1 r (List.mem_of_getElem? hr);refine .ite (fun h3 => ?_) (fun h3 => ?_)
       ·refine .el (by omega) fun r' hr' => ?_
        have hr' : L[L.length - 1]? = some r' := get_of hr' (by omega);rw [hr] at hr';cases hr';refine .el ⟨hrk.2.2.1, hrk.2.2.2⟩ fun a ha => .el ⟨by omega, hnl⟩ fun b hb => .some ?_
        have ga : gathOf lv r.last = a.g := by unfold gathOf; rw [ha]
        have gb : gathOf lv n = b.g := by unfold gathOf; rw [hb]
        by_cases e : a.g = b.g
        ·exact .inl ⟨decide_eq_true e, r, hr, h3, by rw [ga, gb, e]⟩
        ·refine .inr ⟨decide_eq_false e, ?_⟩;unfold rnStep;rw [hr];simp only;rw [if_neg (fun h => e (by rw [← ga, ← gb]; exact h.2))]
       ·refine .some (.inr ⟨rfl, ?_⟩);unfold rnStep;rw [hr];simp only;rw [if_neg (fun h => h3 h.1)]
      ·refine .some (.inr ⟨rfl, ?_⟩)
       have : L = [] := List.eq_nil_of_length_eq_zero (by omega);subst this;rfl
     ·rintro b (⟨rfl, r, hr, h3, h4⟩ | ⟨rfl, h3⟩)
      ·have hlt := (List.getElem?_eq_some_iff.1 hr).1;refine .ifp rfl (.el (by omega) fun r' hr' => ?_)
       have hr' : L[L.length - 1]? = some r' := get_of hr' (by omega);rw [hr] at hr';cases hr';refine .some ⟨?_, rfl, rfl, hm'⟩;simp only;unfold rnStep;rw [hr];simp only;rw [if_pos (c := r.last < n ∧ gathOf lv r.last = gathOf lv n) ⟨h3, h4⟩, show ((L.length : Int) - 1).toNat = L.length - 1 by omega];simp only [if_true]
      ·refine .ifn (by simp) (.some ?_)
       show Ok _ _;refine .chk (by simp; omega) (.some ⟨?_, rfl, rfl, hm'⟩);simp only;rw [if_pos trivial, h3]
  ·rintro ⟨l', st', tw', m'⟩ ⟨q1, q2, q3, q4⟩;exact .chk (i64_small (by omega)) (.some ⟨rfl, q1, q2, q3, q4⟩)
 ·rintro ⟨x, l, st, tw, m⟩ hx ⟨hl, hst, htw, hm⟩;simp only at hx hl hst htw;unfold P_c_faults_L2;refine .ifn (by omega) (.some ?_)
  show (l, st, tw) = _;rw [hl, hst, htw];rfl
def allOf (n : Nat) (mt : List Int) (g : Int → Int) (t : List Int) : Int := piecesOf mt (lostOf n t) + (strangeOf t).length + (twiceOf t).length + (movedOf (runsOf g t)).length
theorem faults_ok {s : Int} {g : List Gat} {its : List Item} {lv : List Leaf} {mt t : List Int} (hlv : lv.length ≤ 120) (hmt : mt.length = lv.length) (ht : t.length ≤ 120) (hin : TruthIn lv.length t) :
  P_c_faults s g its lv mt t = some ([], lostOf lv.length t, piecesOf mt (lostOf lv.length t), strangeOf t, twiceOf t, movedOf (runsOf (gathOf lv) t), allOf lv.length mt (gathOf lv) t) := by
 refine Ok.get ?_;unfold P_c_faults
 have hl := lostOf_len lv.length t
 have hp := piecesOf_le mt (lostOf lv.length t)
 have h1 : (strangeOf t).length ≤ 120 := Nat.le_trans (idxTo_len _ _ _) ht
 have h2 : (twiceOf t).length ≤ 120 := Nat.le_trans (idxTo_len _ _ _) ht
 have hr := runsTo_ok (g := gathOf lv) hin t.length
 have hm := movedOf_len (runsOf (gathOf lv) t)
 have hrl : (runsOf (gathOf lv) t).length ≤ t.length := hr.2;refine .andx' (lost_ok (by omega) (by omega)) ?_;obtain ⟨m1, e1⟩ := pieces_ok (mt := mt) (lostOf_sorted lv.length t) (fun x hx => by have := mem_lostOf.1 hx; rw [hmt]; omega) (by omega);refine .andx' e1 ?_;obtain ⟨m2, e2⟩ := runs_loop ht hin;refine .andx' e2 ?_;refine .andx' (moved_ok (by omega) hr.1) ?_;refine .chk (i64_small (by omega)) (.chk (i64_small (by omega)) (.chk (i64_small (by omega)) (.some rfl)))
end Go.Am
end
section
namespace Go.Am
def BadOrder (l : List Int) : Prop := ∃ (i : Nat) (a b : Int), l[i]? = some a ∧ l[i + 1]? = some b ∧ b ≤ a
open Classical in
noncomputable def itemErr (l : List Int) (n : Int) : Int := if 4 < l.length then 3 else if ∃ x ∈ l, x < 0 ∨ n - 1 < x then 4 else if BadOrder l then 2 else 0
noncomputable def itemsErr (n : Int) : Nat → List Item → Option (Nat × Int)
 | _, [] => none
 | i, x :: l => if itemErr x.could.l n = 0 then itemsErr n (i + 1) l else some (i, itemErr x.could.l n)
def doubtsErr : Nat → Nat → List Item → Option Nat
 | _, _, [] => none
 | d, i, x :: l => if 3 < (if 1 < x.could.l.length then d + 1 else d) then some i else doubtsErr (if 1 < x.could.l.length then d + 1 else d) (i + 1) l
noncomputable def caseErr (s : Int) (g : List Gat) (its : List Item) : Int × Int × Int :=
 if (bookErr (bk s g)).2.2 = 0 then
  if 120 < (leavesOf (bk s g)).length then (1, 0, 3)
  else if 120 < its.length then (2, 0, 3)
  else match itemsErr (leavesOf (bk s g)).length 0 its with
   | some (i, e) => (2, (i : Int), e)
   | none => match doubtsErr 0 0 its with
    | some i => (3, (i : Int), 3)
    | none => (0, 0, 0)
 else (1, 0, (bookErr (bk s g)).2.2)
theorem in_ok {n lo hi : Int} : P_r4_in n lo hi = some (decide (lo ≤ n ∧ n ≤ hi)) := by
 unfold P_r4_in
 by_cases h : n ≥ lo
 ·rw [if_pos h]; simp [andx, show lo ≤ n from h]
 ·rw [if_neg h]; simp [andx, show ¬ lo ≤ n from h]
theorem item_ok {l : List Int} {n : Int} (hn : 0 ≤ n ∧ n ≤ 1000000) : P_r4_item l n = some (itemErr l n) := by
 refine Ok.get ?_;unfold P_r4_item itemErr;refine .ite (fun h => ?_) (fun h => ?_)
 ·rw [if_pos (by omega)]; exact .some rfl
 ·rw [if_neg (by omega)];refine Ok.seqx (Ok.count id l.length (fun k s => ∀ x ∈ l.take k, ¬ (x < 0 ∨ n - 1 < x)) rfl (by simp) ?_ ?_)
  ·rintro k x hk hx hi;simp only [id] at hx;unfold P_r4_item_L1;refine .ifp (by omega) (.el (by omega) fun a ha => .chk (i64_small (by omega)) (.andx' in_ok ?_))
   have ha := get_of ha hx;refine .ite (fun hc => ?_) (fun hc => ?_)
   ·refine .chk (i64_small (by omega)) (.some ⟨by simp only [id]; omega, ?_⟩)
    show ∀ y ∈ l.take (k + 1), _;rw [take_snoc ha];intro y hy
    rcases List.mem_append.1 hy with hy | hy
    ·exact hi y hy
    ·simp at hy; subst hy; simp at hc; omega
   ·refine .some ?_
    show 4 = _;rw [if_pos ⟨a, List.mem_of_getElem? ha, by simp at hc; omega⟩]
  ·rintro x hx hi;simp only [id] at hx;unfold P_r4_item_L1;rw [List.take_length] at hi;refine .ifn (by omega) (.some ?_)
   show Ok _ _;rw [if_neg (fun ⟨y, h1, h2⟩ => hi y h1 h2)];refine Ok.seqx (Ok.iter (fun i => 1 ≤ i ∧ ∀ (k : Nat) (a b : Int), (k : Int) + 1 < i → l[k]? = some a → l[k + 1]? = some b → a < b) (fun i => l.length - i.toNat) ⟨by omega, fun k a b h => by omega⟩ ?_);rintro i ⟨h1, h2⟩;unfold P_r4_item_L2;refine .ite (fun hc => ?_) (fun hc => ?_)
   ·refine .el (by omega) fun b hb => .chk (i64_small (by omega)) (.el (by omega) fun a ha => ?_)
    have e : i.toNat = (i - 1).toNat + 1 := by omega
    rw [e] at hb;refine .ite (fun hd => .some ?_) (fun hd => .chk (i64_small (by omega)) (.some ⟨⟨by omega, ?_⟩, by simp only; omega⟩))
    ·show 2 = _;rw [if_pos ⟨_, a, b, ha, hb, hd⟩]
    ·intro k a' b' hk ha' hb'
     by_cases hk' : (k : Int) + 1 < i
     ·exact h2 k a' b' hk' ha' hb'
     ·have : k = (i - 1).toNat := by omega
      subst this;rw [ha] at ha'; rw [hb] at hb';cases ha'; cases hb';omega
   ·refine .some ?_
    show Ok _ _;refine .some ?_;rw [if_neg];rintro ⟨k, a, b, ha, hb, hd⟩
    have := (List.getElem?_eq_some_iff.1 hb).1
    have := h2 k a b (by omega) ha hb;omega
theorem itemsErr_drop {n : Int} {l : List Item} {k : Nat} {x : Item} (h : l[k]? = some x) : itemsErr n k (l.drop k) = if itemErr x.could.l n = 0 then itemsErr n (k + 1) (l.drop (k + 1)) else some (k, itemErr x.could.l n) := by
 rw [drop_cons h]; rfl
theorem doubtsErr_drop {d : Nat} {l : List Item} {k : Nat} {x : Item} (h : l[k]? = some x) : doubtsErr d k (l.drop k) = if 3 < (if 1 < x.could.l.length then d + 1 else d) then some k else doubtsErr (if 1 < x.could.l.length then d + 1 else d) (k + 1) (l.drop (k + 1)) := by
 rw [drop_cons h]; rfl
theorem r4_Check_ok {s : Int} {g : List Gat} {its : List Item} : P_r4_Check s g its = some (caseErr s g its) := by
 refine Ok.get ?_;unfold P_r4_Check caseErr;refine .andx' (x := P_r1_Check s g) rfl ?_;dsimp only
 by_cases h0 : (bookErr (bk s g)).2.2 = 0
 ·have hf := book_fits h0
  have hall : P_r1_All s g = some (leavesOf (bk s g)) := by unfold P_r1_All; rw [chk_pos hf]
  have hlen := leaves_len hf;rw [if_pos h0, if_pos h0, hall];simp only [andx];generalize hL : leavesOf (bk s g) = lv at hlen
  by_cases h1 : 120 < lv.length
  ·rw [if_pos (show decide ((lv.length : Int) > 120) = true by simp; omega), if_pos h1];simp only;refine .ifp (by omega) (.some rfl)
  ·rw [if_neg (show ¬ decide ((lv.length : Int) > 120) = true by simp; omega), if_neg h1];simp only [h0];refine .ifn (by simp) ?_
   by_cases h2 : 120 < its.length
   ·rw [if_pos h2]; refine .ifp (by omega) (.some rfl)
   ·rw [if_neg h2];refine .ifn (by omega) (Ok.seqx (Ok.count id its.length (fun k _ => itemsErr lv.length 0 its = itemsErr lv.length k (its.drop k)) rfl rfl ?_ ?_))
    ·rintro k i hk hi hI;simp only [id] at hi;subst hi;unfold P_r4_Check_L1;refine .ifp (by omega) (.el (by omega) fun x hx => .andx' (item_ok (by omega)) ?_)
     have hx := get_of hx rfl;rw [itemsErr_drop hx] at hI;refine .ite (fun hc => ?_) (fun hc => ?_)
     ·rw [if_neg hc] at hI;refine .some ?_
      show _ = _;rw [hI]
     ·rw [if_pos (by omega)] at hI;exact .chk (i64_small (by omega)) (.some ⟨rfl, hI⟩)
    ·rintro i hi hI;simp only [id] at hi;subst hi;unfold P_r4_Check_L1;rw [List.drop_length] at hI;refine .ifn (by omega) (.some ?_)
     show Ok _ _;rw [hI];simp only [itemsErr];refine Ok.seqx (Ok.count (σ := Int × Int) Prod.snd its.length (fun k s => ∃ d : Nat, s.1 = d ∧ d ≤ 3 ∧ doubtsErr 0 0 its = doubtsErr d k (its.drop k)) rfl ⟨0, rfl, by omega, rfl⟩ ?_ ?_)
     ·rintro k ⟨dd, i⟩ hk hi ⟨d, hd, hd3, hI⟩;simp only at hi hd;subst hi hd;unfold P_r4_Check_L2;refine .ifp (by omega) (Ok.seqx ?_);refine Ok.andx (P := fun j => ∃ x, its[k]? = some x ∧ j = ((if 1 < x.could.l.length then d + 1 else d : Nat) : Int)) (.el (by omega) fun x hx => ?_) ?_
      ·have hx := get_of hx rfl;refine .ite (fun hc => .chk (i64_small (by omega)) (.some ⟨x, hx, ?_⟩)) (fun hc => .some ⟨x, hx, ?_⟩)
       ·rw [if_pos (by omega)]; rfl
       ·rw [if_neg (by omega)]
      ·rintro j ⟨x, hx, rfl⟩;rw [doubtsErr_drop hx] at hI;generalize (if 1 < x.could.l.length then d + 1 else d) = e at hI;refine .ite (fun hc => ?_) (fun hc => ?_)
       ·rw [if_pos (by omega)] at hI;refine .some ?_
        show _ = _;rw [hI]
       ·rw [if_neg (by omega)] at hI;refine .some ?_
        show Ok _ _;exact .chk (i64_small (by omega)) (.some ⟨rfl, e, rfl, by omega, hI⟩)
     ·rintro ⟨dd, i⟩ hi ⟨d, hd, hd3, hI⟩;simp only at hi hd;subst hi hd;unfold P_r4_Check_L2;rw [List.drop_length] at hI;refine .ifn (by omega) (.some ?_)
      show Ok _ _;rw [hI];exact .some rfl
 ·rw [if_neg h0, if_neg h0];simp only [andx];rw [if_neg (by simp)];simp only;exact .ifp h0 (.some rfl)
end Go.Am
end
section
namespace Go.Am
noncomputable def lvs (s : Int) (g : List Gat) : List Leaf := leavesOf (bk s g)
noncomputable def matesTo (s : Int) (g : List Gat) (n : Nat) : List Int := (List.range n).map fun n => pairNo (bk s g) n
noncomputable def matesOf (s : Int) (g : List Gat) : List Int := matesTo s g (lvs s g).length
theorem matesTo_len (s : Int) (g : List Gat) (n : Nat) : (matesTo s g n).length = n := by simp [matesTo]
theorem matesTo_succ (s : Int) (g : List Gat) (n : Nat) : matesTo s g (n + 1) = matesTo s g n ++ [pairNo (bk s g) n] := by
 unfold matesTo; rw [List.range_succ, List.map_append]; rfl
theorem itemsErr_pos : ∀ (l : List Item) (i : Nat) (n : Int), ∀ x, itemsErr n i l = some x → x.2 ≠ 0 := by
 intro l
 induction l with
 | nil => intro i n x h; cases h
 | cons a l ih =>
  intro i n x h;unfold itemsErr at h;split at h
  ·exact ih _ _ _ h
  ·cases h; assumption
noncomputable def openRes (s : Int) (g : List Gat) (its : List Item) : Sum (Int × Int × Int) (Int × (GS encL) × (List Int) × Int × Int × Int) :=
 if (caseErr s g its).2.2 = 0 then .inr (s, GSo true encL (lvs s g), matesOf s g, 0, 0, 0) else .inl (caseErr s g its)
theorem outside_ok {lo hi : Int} {x : List Int} (h : x.length ≤ 1000000) : P_c_outside lo hi x = some (decide (∃ n ∈ x, n < lo ∨ hi < n)) := by
 unfold P_c_outside;rw [chk_pos (by omega)]
theorem order_ok {x44 : Int} {it : Item} (hl : it.could.l.length ≤ 4) {Q : Ex Unit (Stp Int (Ex Unit (Sum (Int × Int × Int) (Int × (GS encL) × (List Int) × Int × Int × Int)))) → Prop}
  (h1 : BadOrder it.could.l → Q (.rt (.dn (.rt (.inl (2, x44, 2)))))) (h2 : ¬ BadOrder it.could.l → Q (.nx ())) : Ok (iter (P_c_open_L2 x44 it) 0) Q := by
 refine Ok.iter (fun i => 0 ≤ i ∧ ∀ (k : Nat) (a b : Int), (k : Int) + 1 < i → it.could.l[k]? = some a → it.could.l[k + 1]? = some b → a < b) (fun i => it.could.l.length - i.toNat) ⟨by omega, fun k a b h => by omega⟩ ?_;rintro i ⟨h0, hI⟩;unfold P_c_open_L2;refine .ite (fun hc => ?_) (fun hc => ?_)
 ·refine Ok.seqx (.el (by omega) fun b hb => ?_)
  by_cases hi : i > 0
  ·rw [if_pos hi];refine Ok.andx (P := fun c => ∃ a, it.could.l[(i - 1).toNat]? = some a ∧ c = decide (b ≤ a)) (.chk (i64_small (by omega)) (.el (by omega) fun a ha => .some ⟨a, ha, rfl⟩)) ?_;rintro c ⟨a, ha, rfl⟩
   have e : i.toNat = (i - 1).toNat + 1 := by omega
   rw [e] at hb;refine .ite (fun hd => .some ?_) (fun hd => .some ?_)
   ·exact h1 ⟨_, a, b, ha, hb, by simpa using hd⟩
   ·refine .chk (i64_small (by omega)) (.some ⟨⟨by omega, ?_⟩, by simp only; omega⟩);intro k a' b' hk ha' hb'
    by_cases hk' : (k : Int) + 1 < i
    ·exact hI k a' b' hk' ha' hb'
    ·have : k = (i - 1).toNat := by omega
     subst this;rw [ha] at ha'; rw [hb] at hb';cases ha'; cases hb'
     have : ¬ b ≤ a := by simpa using hd
     omega
  ·rw [if_neg hi];simp only [andx];rw [if_neg (by simp)];refine .some ?_
   show Ok _ _;exact .chk (i64_small (by omega)) (.some ⟨⟨by omega, fun k a b hk => by omega⟩, by simp only; omega⟩)
 ·refine .some ?_;refine h2 ?_;rintro ⟨k, a, b, ha, hb, hd⟩
  have := (List.getElem?_eq_some_iff.1 hb).1
  have := hI k a b (by omega) ha hb;omega
theorem mate_ok {s : Int} {g : List Gat} {n : Nat} (h0 : (bookErr (bk s g)).2.2 = 0) (hn : n < (lvs s g).length) : (if ¬ (mateOf (bk s g) n).2 = 0 then (-1 : Int) else (mateOf (bk s g) n).1) = pairNo (bk s g) n := by
 rcases mate_cases h0 hn with h | ⟨h, h'⟩
 ·rw [h]; simp
 ·rw [h, h']; simp
theorem mates_ok {s : Int} {g : List Gat} (h0 : (bookErr (bk s g)).2.2 = 0) (hl : (lvs s g).length ≤ 120) : iter (P_c_open_L4 s g (lvs s g)) (0, []) = some (matesOf s g) := by
 refine Ok.get (Ok.count (σ := Int × List Int) Prod.fst (lvs s g).length (fun k x => x.2 = matesTo s g k) rfl rfl ?_ ?_)
 ·rintro k ⟨i, l⟩ hk hi hl';simp only at hi hl';subst hi hl';unfold P_c_open_L4;refine .ifp (by omega) (Ok.andx (P := fun l => l = matesTo s g (k + 1)) ?_ ?_)
  ·refine .andx' (x := P_q_Mate s g k) (a := mateOf (bk s g) k) rfl ?_
   have hme := mate_ok h0 hk;generalize mateOf (bk s g) (k : Int) = me at hme;obtain ⟨m, e⟩ := me;dsimp only at hme ⊢;refine Ok.andx (P := fun m => m = pairNo (bk s g) k) ?_ ?_
   ·refine .ite (fun hc => .some ?_) (fun hc => .some ?_)
    ·rw [if_pos hc] at hme; exact hme
    ·rw [if_neg hc] at hme; exact hme
   ·rintro m rfl
    have := matesTo_len s g k;exact .chk (by simp; omega) (.some (matesTo_succ s g k).symm)
  ·rintro l rfl;exact .chk (i64_small (by omega)) (.some ⟨rfl, rfl⟩)
 ·rintro ⟨i, l⟩ hi hl';simp only at hi hl';subst hi hl';unfold P_c_open_L4;exact .ifn (by omega) (.some rfl)
theorem open_ok {s : Int} {g : List Gat} {its : List Item} : P_c_open s g its = some (openRes s g its) := by
 refine Ok.get ?_;unfold P_c_open openRes caseErr;refine .andx' (x := P_q_Check s g) rfl ?_;dsimp only
 by_cases h0 : (bookErr (bk s g)).2.2 = 0
 ·rw [if_pos h0];refine .ifn (fun h => h h0) (.andx' (x := P_q_Leaves s g) (a := (leavesOf (bk s g), 0)) (by unfold P_q_Leaves; rw [if_pos h0, h0]) ?_);dsimp only
  have hlen := leaves_len (book_fits h0)
  have hmt := mates_ok (s := s) (g := g) h0;unfold lvs at hmt ⊢;generalize leavesOf (bk s g) = lv at hlen hmt
  by_cases h1 : 120 < lv.length
  ·rw [if_pos h1];exact .ifp (by omega) (.some (by simp))
  ·rw [if_neg h1];refine .ifn (by omega) ?_
   by_cases h2 : 120 < its.length
   ·rw [if_pos h2];exact .ifp (by omega) (.some (by simp))
   ·rw [if_neg h2];refine .ifn (by omega) (Ok.seqx (Ok.count id its.length (fun k _ => itemsErr lv.length 0 its = itemsErr lv.length k (its.drop k)) rfl rfl ?_ ?_))
    ·rintro k i hk hi hI;simp only [id] at hi;subst hi;unfold P_c_open_L1;refine .ifp (by omega) (Ok.seqx (.el (by omega) fun x hx => ?_))
     have hx := get_of hx rfl;rw [itemsErr_drop hx] at hI
     have key : ∀ e : Int, itemErr x.could.l lv.length = e → e ≠ 0 → (Sum.inl (2, (k : Int), e) : Sum (Int × Int × Int) (Int × (GS encL) × (List Int) × Int × Int × Int)) = (if (match itemsErr lv.length 0 its with | some (i, e) => ((2 : Int), (i : Int), e) | none => match doubtsErr 0 0 its with | some i => (3, (i : Int), 3) | none => (0, 0, 0)).2.2 = 0 then .inr (s, GSo true encL lv, matesOf s g, 0, 0, 0) else .inl (match itemsErr lv.length 0 its with | some (i, e) => ((2 : Int), (i : Int), e) | none => match doubtsErr 0 0 its with | some i => (3, (i : Int), 3) | none => (0, 0, 0))) := by
      intro e he h;rw [he, if_neg h] at hI;rw [hI];simp [h]
     unfold itemErr at hI key;refine .ite (fun hc => ?_) (fun hc => ?_)
     ·exact .some (key 3 (by rw [if_pos (by omega)]) (by omega))
     ·rw [if_neg (by omega : ¬ 4 < x.could.l.length)] at hI key;refine .chk (i64_small (by omega)) (.andx' (outside_ok (by omega)) ?_);refine .ite (fun hd => ?_) (fun hd => ?_)
      ·exact .some (key 4 (by rw [if_pos (by simpa using hd)]) (by omega))
      ·have hd' : ¬ ∃ n ∈ x.could.l, n < 0 ∨ (lv.length : Int) - 1 < n := by simpa using hd
       rw [if_neg hd'] at hI key;refine order_ok (by omega) (fun hb => ?_) (fun hb => ?_)
       ·exact key 2 (by rw [if_pos hb]) (by omega)
       ·rw [if_neg hb, if_pos rfl] at hI
        show Ok _ _;exact .chk (i64_small (by omega)) (.some ⟨rfl, hI⟩)
    ·rintro i hi hI;simp only [id] at hi;subst hi;unfold P_c_open_L1;rw [List.drop_length] at hI;refine .ifn (by omega) (.some ?_)
     show Ok _ _;rw [hI];simp only [itemsErr];refine Ok.seqx (Ok.count (σ := Int × Int) Prod.snd its.length (fun k s => ∃ d : Nat, s.1 = d ∧ d ≤ 3 ∧ doubtsErr 0 0 its = doubtsErr d k (its.drop k)) rfl ⟨0, rfl, by omega, rfl⟩ ?_ ?_)
     ·rintro k ⟨dd, i⟩ hk hi ⟨d, hd, hd3, hI⟩;simp only at hi hd;subst hi hd;unfold P_c_open_L3;refine .ifp (by omega) (Ok.seqx (.el (by omega) fun x hx => ?_))
      have hx := get_of hx rfl;rw [doubtsErr_drop hx] at hI;refine Ok.andx (P := fun j => j = ((if 1 < x.could.l.length then d + 1 else d : Nat) : Int)) ?_ ?_
      ·refine .ite (fun hc => .chk (i64_small (by omega)) (.some ?_)) (fun hc => .some ?_)
       ·rw [if_pos (by omega)]; rfl
       ·rw [if_neg (by omega)]
      ·rintro j rfl;generalize (if 1 < x.could.l.length then d + 1 else d) = e at hI;refine .ite (fun hc => ?_) (fun hc => ?_)
       ·rw [if_pos (by omega)] at hI;refine .some ?_
        show _ = _;rw [hI];simp
       ·rw [if_neg (by omega)] at hI;refine .some ?_
        show Ok _ _;exact .chk (i64_small (by omega)) (.some ⟨rfl, e, rfl, by omega, hI⟩)
     ·rintro ⟨dd, i⟩ hi ⟨d, hd, hd3, hI⟩;simp only at hi hd;subst hi hd;unfold P_c_open_L3;rw [List.drop_length] at hI;refine .ifn (by omega) (.some ?_)
      show Ok _ _;rw [hI];refine .andx' (hmt (by omega)) (.some ?_);simp [doubtsErr]
 ·rw [if_neg h0];exact .ifp h0 (.some (by rw [if_neg h0]))
end Go.Am
end
section
namespace Go.Am
theorem doubts_le : ∀ (l : List Item) (d i : Nat), d ≤ 3 → doubtsErr d i l = none → d + l.countP (fun x => decide (1 < x.could.l.length)) ≤ 3 := by
 intro l
 induction l with
 | nil => intro d i hd _; simpa using hd
 | cons x l ih =>
  intro d i hd h;unfold doubtsErr at h;rw [List.countP_cons]
  by_cases hx : 1 < x.could.l.length
  ·simp only [hx, if_true, decide_true] at h ⊢;split at h
   ·cases h
   ·have := ih _ _ (by omega) h;omega
  ·simp only [hx, if_false, decide_false] at h ⊢;split at h
   ·cases h
   ·have := ih _ _ (by omega) h
    simpa using this
theorem items_ok {n : Int} : ∀ (l : List Item) (i : Nat), itemsErr n i l = none → ∀ x ∈ l, itemErr x.could.l n = 0 := by
 intro l
 induction l with
 | nil => intro i _ x hx; simp at hx
 | cons a l ih =>
  intro i h x hx;unfold itemsErr at h;split at h
  ·rename_i h0
   rcases List.mem_cons.1 hx with rfl | hx
   ·exact h0
   ·exact ih _ h x hx
  ·cases h
theorem item_facts {l : List Int} {n : Int} (h : itemErr l n = 0) : l.length ≤ 4 ∧ (∀ x ∈ l, 0 ≤ x ∧ x ≤ n - 1) ∧ ¬ BadOrder l := by
 unfold itemErr at h;split at h
 ·omega
 ·split at h
  ·omega
  ·rename_i h1 h2
   split at h
   ·omega
   ·rename_i h3
    refine ⟨by omega, fun x hx => ?_, h3⟩
    have : ¬ (x < 0 ∨ n - 1 < x) := fun k => h2 ⟨x, hx, k⟩
    omega
def wid : List Item → Nat
 | [] => 1
 | x :: l => (chs x).length * wid l
theorem comps_len : ∀ (l : List Item) (p : List Int), (comps p l).length = wid l := by
 intro l
 induction l with
 | nil => intro p; rfl
 | cons x l ih =>
  intro p;unfold comps wid;rw [List.length_flatMap]
  have : ((chs x).map fun c => (comps (p ++ [c]) l).length) = (chs x).map fun _ => wid l := by simp [ih]
  rw [this];simp [List.map_const', List.sum_replicate_nat]
theorem chs_len (x : Item) (h : x.could.l.length ≤ 4) : 1 ≤ (chs x).length ∧ (chs x).length ≤ 4 ∧ (1 < (chs x).length ↔ 1 < x.could.l.length) := by
 unfold chs
 by_cases h0 : x.could.l = []
 ·rw [if_pos h0]; simp [h0]
 ·rw [if_neg h0]
  have : x.could.l.length ≠ 0 := fun e => h0 (List.eq_nil_of_length_eq_zero e)
  omega
theorem wid_le : ∀ (l : List Item), (∀ x ∈ l, x.could.l.length ≤ 4) → 1 ≤ wid l ∧ wid l ≤ 4 ^ l.countP (fun x => decide (1 < x.could.l.length)) := by
 intro l
 induction l with
 | nil => intro _; simp [wid]
 | cons x l ih =>
  intro h
  have hx := chs_len x (h x (by simp));obtain ⟨h1, h2⟩ := ih fun y hy => h y (by simp [hy])
  unfold wid;rw [List.countP_cons];refine ⟨Nat.mul_pos hx.1 h1, ?_⟩
  by_cases hc : 1 < x.could.l.length
  ·simp only [hc, decide_true, if_true, Nat.pow_succ];rw [Nat.mul_comm];exact Nat.mul_le_mul h2 hx.2.1
  ·have : (chs x).length = 1 := by have := hx.2.2; omega
   simp only [hc, decide_false, this]
   simpa using h2
def lev : List (List Int) → List Item → List (List Int)
 | out, [] => out
 | out, x :: l => lev (out.flatMap fun o => (chs x).map fun c => o ++ [c]) l
theorem lev_comps : ∀ (l : List Item) (out : List (List Int)), lev out l = out.flatMap fun o => comps o l := by
 intro l
 induction l with
 | nil => intro out; simp [lev, comps]
 | cons x l ih =>
  intro out;unfold lev;rw [ih, List.flatMap_assoc]
  congr 1
  funext o
  rw [List.flatMap_map];rfl
theorem lev_snoc : ∀ (l : List Item) (out : List (List Int)) (x : Item), lev out (l ++ [x]) = (lev out l).flatMap fun o => (chs x).map fun c => o ++ [c] := by
 intro l
 induction l with
 | nil => intro out x; rfl
 | cons y l ih => intro out x; exact ih _ x
theorem truths_lev (l : List Item) : lev [[]] l = truthsOf l := by rw [lev_comps]; simp [truthsOf]
theorem comps_each : ∀ (l : List Item) (p t : List Int), t ∈ comps p l → t.length = p.length + l.length := by
 intro l
 induction l with
 | nil => intro p t h; simp [comps] at h; simp [h]
 | cons x l ih =>
  intro p t h;unfold comps at h;obtain ⟨c, _, hc⟩ := List.mem_flatMap.1 h
  have := ih _ _ hc;simp at this ⊢;omega
theorem lev_each {l : List Item} {t : List Int} (h : t ∈ lev [[]] l) : t.length = l.length := by
 rw [truths_lev] at h
 simpa using comps_each l [] t h
theorem one_row {could : List Int} {o : List Int} {body : Int × List (List Int) → Option (Stp (Int × List (List Int)) (List (List Int)))} (hb : ∀ (n : Nat) (next : List (List Int)), next.length ≤ 1000000 → (∀ a, could[n]? = some a → body (n, next) = some (.ag ((n : Int) + 1, next ++ [o ++ [a]]))) ∧ (could[n]? = none → body (n, next) = some (.dn next)))
  {next : List (List Int)} (hn : next.length + could.length ≤ 1000000) : iter body (0, next) = some (next ++ could.map fun c => o ++ [c]) := by
 refine Ok.get (Ok.count (σ := Int × List (List Int)) Prod.fst could.length (fun k s => s.2 = next ++ (could.take k).map fun c => o ++ [c]) rfl (by simp) ?_ ?_)
 ·rintro k ⟨i, nx⟩ hk hi hx;simp only at hi hx;subst hi hx
  have e := List.getElem?_eq_getElem hk;refine .eq ((hb k _ (by simp; omega)).1 _ e) ⟨rfl, ?_⟩
  show _ = next ++ (could.take (k + 1)).map fun c => o ++ [c]
  rw [take_snoc e, List.map_append, ← List.append_assoc];rfl
 ·rintro ⟨i, nx⟩ hi hx;simp only at hi hx;subst hi hx;refine .eq ((hb could.length _ (by simp; omega)).2 (List.getElem?_eq_none (Nat.le_refl _))) ?_
  show _ = _;rw [List.take_length]
theorem all_rows {could : List Int} {out : List (List Int)} {body : Int × List (List Int) → Option (Stp (Int × List (List Int)) (List (List Int)))} (hb : ∀ (k : Nat) (next : List (List Int)), next.length + could.length ≤ 1000000 → (∀ o, out[k]? = some o → body (k, next) = some (.ag ((k : Int) + 1, next ++ could.map fun c => o ++ [c]))) ∧ (out[k]? = none → body (k, next) = some (.dn next)))
  (hn : (out.length + 1) * could.length ≤ 1000000) : iter body (0, []) = some (out.flatMap fun o => could.map fun c => o ++ [c]) := by
 have hlen : ∀ k, k ≤ out.length → ((out.take k).flatMap fun o => could.map fun c => o ++ [c]).length = k * could.length := by
  intro k hk;rw [List.length_flatMap]
  have : ((out.take k).map fun o => (could.map fun c => o ++ [c]).length) = (out.take k).map fun _ => could.length := by simp
  rw [this];simp [List.map_const', List.sum_replicate_nat, Nat.min_eq_left hk]
 refine Ok.get (Ok.count (σ := Int × List (List Int)) Prod.fst out.length (fun k s => s.2 = (out.take k).flatMap fun o => could.map fun c => o ++ [c]) rfl (by simp) ?_ ?_)
 ·rintro k ⟨i, nx⟩ hk hi hx;simp only at hi hx;subst hi hx
  have e := List.getElem?_eq_getElem hk
  have hb1 : k * could.length + could.length ≤ (out.length + 1) * could.length := by
   rw [← Nat.succ_mul]; exact Nat.mul_le_mul_right _ (by omega)
  refine .eq ((hb k _ (by rw [hlen k (by omega)]; omega)).1 _ e) ⟨rfl, ?_⟩
  show _ = (out.take (k + 1)).flatMap _;rw [take_snoc e, List.flatMap_append];simp
 ·rintro ⟨i, nx⟩ hi hx;simp only at hi hx;subst hi hx
  have hb1 : out.length * could.length + could.length = (out.length + 1) * could.length := (Nat.succ_mul _ _).symm;refine .eq ((hb out.length _ (by rw [hlen _ (Nat.le_refl _)]; omega)).2 (List.getElem?_eq_none (Nat.le_refl _))) ?_
  show _ = _;rw [List.take_length]
end Go.Am
end
section
namespace Go.Am
set_option linter.unusedVariables false
structure GoodCase (s : Int) (g : List Gat) (its : List Item) : Prop where
 b0 : (bookErr (bk s g)).2.2 = 0
 nl : (lvs s g).length ≤ 120
 il : its.length ≤ 120
 few : ∀ x ∈ its, x.could.l.length ≤ 4
 rng : ∀ x ∈ its, ∀ n ∈ x.could.l, 0 ≤ n ∧ n ≤ ((lvs s g).length : Int) - 1
 dbt : its.countP (fun x => decide (1 < x.could.l.length)) ≤ 3
theorem case_good {s : Int} {g : List Gat} {its : List Item} (h : (caseErr s g its).2.2 = 0) : GoodCase s g its := by
 unfold caseErr at h
 by_cases hb : (bookErr (bk s g)).2.2 = 0
 ·rw [if_pos hb] at h
  by_cases h1 : 120 < (leavesOf (bk s g)).length
  ·rw [if_pos h1] at h; simp at h
  ·rw [if_neg h1] at h
   by_cases h2 : 120 < its.length
   ·rw [if_pos h2] at h; simp at h
   ·rw [if_neg h2] at h;split at h
    ·rename_i i e he
     exact absurd h (itemsErr_pos _ _ _ _ he)
    ·rename_i he
     split at h
     ·simp at h
     ·rename_i hd
      have hi := fun x hx => item_facts (items_ok _ _ he x hx)
      exact ⟨hb, by unfold lvs; omega, by omega, fun x hx => (hi x hx).1, fun x hx => (hi x hx).2.1, by simpa using doubts_le _ _ _ (by omega) hd⟩
 ·rw [if_neg hb] at h; exact absurd h hb
theorem GoodCase.wid {s : Int} {g : List Gat} {its : List Item} (h : GoodCase s g its) : Go.Am.wid its ≤ 64 :=
 Nat.le_trans (wid_le _ h.few).2 (Nat.le_trans (Nat.pow_le_pow_right (by omega) h.dbt) (by decide))
theorem GoodCase.take {s : Int} {g : List Gat} {its : List Item} (h : GoodCase s g its) (k : Nat) : GoodCase s g (its.take k) :=
  ⟨h.b0, h.nl, Nat.le_trans (by rw [List.length_take]; omega) h.il, fun x hx => h.few x (List.mem_of_mem_take hx), fun x hx => h.rng x (List.mem_of_mem_take hx),
    Nat.le_trans ((List.take_sublist k its).countP_le) h.dbt⟩
theorem lev_len (l : List Item) : (lev [[]] l).length = Go.Am.wid l := by rw [truths_lev]; exact comps_len l []
theorem el_eq {α β : Type} {l : List α} {k : Nat} {a : α} {c : α → Option β} (h : l[k]? = some a) : el l (k : Int) c = c a := by
 unfold el; rw [if_pos (by omega)]; simp only [Int.toNat_natCast, h]
theorem row3 {l9 : List (List Int)} {k : Nat} {o : List Int} (ho : l9[k]? = some o) (hl : o.length ≤ 1000000) (n : Nat) (next : List (List Int)) (hn : next.length ≤ 1000000) :
  (∀ a, [(-1 : Int)][n]? = some a → P_r4_All_L3 l9 k (n, next) = some (.ag ((n : Int) + 1, next ++ [o ++ [a]]))) ∧ ([(-1 : Int)][n]? = none → P_r4_All_L3 l9 k (n, next) = some (.dn next)) := by
 constructor
 ·intro a ha
  have hlt := (List.getElem?_eq_some_iff.1 ha).1
  have h1 : n < 1 := hlt;unfold P_r4_All_L3;dsimp only;rw [if_pos (by omega), el_eq ho, el_eq ha, chk_pos (by simp; omega), chk_pos (by simp; omega), chk_pos (by simp; omega), chk_pos (i64_small (by omega))];rfl
 ·intro hnone
  have := List.getElem?_eq_none_iff.1 hnone;unfold P_r4_All_L3;dsimp only;rw [if_neg (by omega)]
theorem row5 {l9 : List (List Int)} {it : Item} {k : Nat} {o : List Int} (ho : l9[k]? = some o) (hl : o.length ≤ 1000000) (hc : it.could.l.length ≤ 4) (n : Nat) (next : List (List Int)) (hn : next.length ≤ 1000000) :
  (∀ a, it.could.l[n]? = some a → P_r4_All_L5 l9 it k (n, next) = some (.ag ((n : Int) + 1, next ++ [o ++ [a]]))) ∧ (it.could.l[n]? = none → P_r4_All_L5 l9 it k (n, next) = some (.dn next)) := by
 constructor
 ·intro a ha
  have hlt := (List.getElem?_eq_some_iff.1 ha).1;unfold P_r4_All_L5;dsimp only;rw [if_pos (by omega), el_eq ho, el_eq ha, chk_pos (by simp; omega), chk_pos (by simp; omega), chk_pos (by simp; omega), chk_pos (i64_small (by omega))];rfl
 ·intro hnone
  have := List.getElem?_eq_none_iff.1 hnone;unfold P_r4_All_L5;dsimp only;rw [if_neg (by omega)]
theorem lvl2 {l9 : List (List Int)} (hl : l9.length ≤ 64) (ho : ∀ o ∈ l9, o.length ≤ 1000000) : iter (P_r4_All_L2 l9) (0, []) = some (l9.flatMap fun o => [(-1 : Int)].map fun c => o ++ [c]) := by
 refine all_rows (fun k next hn => ⟨fun o hk => ?_, fun hk => ?_⟩) (by simp; omega)
 ·have hlt := (List.getElem?_eq_some_iff.1 hk).1;unfold P_r4_All_L2;dsimp only;rw [if_pos (by omega), one_row (row3 hk (ho o (List.mem_of_getElem? hk))) hn];simp only [andx];rw [chk_pos (i64_small (by omega))]
 ·have := List.getElem?_eq_none_iff.1 hk;unfold P_r4_All_L2;dsimp only;rw [if_neg (by omega)]
theorem lvl4 {l9 : List (List Int)} {it : Item} (hl : l9.length ≤ 64) (ho : ∀ o ∈ l9, o.length ≤ 1000000) (hc : it.could.l.length ≤ 4) : iter (P_r4_All_L4 l9 it) (0, []) = some (l9.flatMap fun o => it.could.l.map fun c => o ++ [c]) := by
 have h65 : (l9.length + 1) * it.could.l.length ≤ 1000000 := Nat.le_trans (Nat.mul_le_mul (show l9.length + 1 ≤ 65 by omega) hc) (by decide);refine all_rows (fun k next hn => ⟨fun o hk => ?_, fun hk => ?_⟩) h65
 ·have hlt := (List.getElem?_eq_some_iff.1 hk).1;unfold P_r4_All_L4;dsimp only;rw [if_pos (by omega), one_row (row5 hk (ho o (List.mem_of_getElem? hk)) hc) hn];simp only [andx];rw [chk_pos (i64_small (by omega))]
 ·have := List.getElem?_eq_none_iff.1 hk;unfold P_r4_All_L4;dsimp only;rw [if_neg (by omega)]
theorem All_ok {s : Int} {g : List Gat} {its : List Item} (h : GoodCase s g its) : ∃ z, P_r4_All s g its = some (truthsOf its, z) := by
 have : Ok (iter (P_r4_All_L1 its) (0, [([] : List Int)], false)) fun r => r.1 = truthsOf its := by
  refine Ok.count (σ := Int × List (List Int) × Bool) Prod.fst its.length (fun k x => x.2.1 = lev [[]] (its.take k)) rfl (by simp [lev]) ?_ ?_
  ·rintro k ⟨i, l9, z⟩ hk hi hx;simp only at hi hx;subst hi hx
   have e := List.getElem?_eq_getElem hk
   have hm : its[k] ∈ its := List.getElem_mem hk
   have hL : (lev [[]] (its.take k)).length ≤ 64 := by rw [lev_len]; exact (h.take k).wid
   have hO : ∀ o ∈ lev [[]] (its.take k), o.length ≤ 1000000 := by
    intro o ho
    have h1 := lev_each ho
    have h2 : (its.take k).length ≤ 120 := (h.take k).il;omega
   unfold P_r4_All_L1;refine .ifp (by omega) ?_;rw [el_eq e]
   have hs : lev [[]] (its.take (k + 1)) = (lev [[]] (its.take k)).flatMap fun o => (chs its[k]).map fun c => o ++ [c] := by rw [take_snoc e, lev_snoc]
   refine Ok.andx' (a := lev [[]] (its.take (k + 1))) ?_ ?_
   ·by_cases hc : its[k].could.l = []
    ·rw [if_pos (by simp [hc]), lvl2 hL hO, hs];simp [andx, chs, hc]
    ·have : its[k].could.l.length ≠ 0 := fun e => hc (List.eq_nil_of_length_eq_zero e)
     rw [if_neg (by omega), lvl4 hL hO (h.few _ hm), hs];simp [andx, chs, hc]
   ·exact .chk (i64_small (by have := h.il; omega)) (.some ⟨rfl, rfl⟩)
  ·rintro ⟨i, l9, z⟩ hi hx;simp only at hi hx;subst hi hx;unfold P_r4_All_L1;refine .ifn (by omega) (.some ?_)
   show lev [[]] (its.take its.length) = _;rw [List.take_length, truths_lev]
 obtain ⟨⟨l, z⟩, h1, h2⟩ := this;refine ⟨z, ?_⟩;unfold P_r4_All;rw [h1];simp only [andx];rw [← h2]
theorem Mates_ok {s : Int} {g : List Gat} (h0 : (bookErr (bk s g)).2.2 = 0) (hl : (lvs s g).length ≤ 120) : P_r4_Mates s g = some (matesOf s g) := by
 have hf := book_fits h0;unfold P_r4_Mates P_r1_All;rw [chk_pos hf]
 show andx _ _ = _;simp only [andx]
 have : iter (P_r4_Mates_L1 s g (leavesOf (bk s g))) (0, []) = some (matesOf s g) := by
  refine Ok.get (Ok.count (σ := Int × List Int) Prod.fst (lvs s g).length (fun k x => x.2 = matesTo s g k) rfl rfl ?_ ?_)
  ·rintro k ⟨i, l⟩ hk hi hx;simp only at hi hx;subst hi hx;unfold P_r4_Mates_L1;refine .ifp (by unfold lvs at hk; omega) ?_;unfold P_r1_Pair;rw [chk_pos ⟨hf, by omega, by unfold lvs at hk; simpa using hk⟩];simp only [andx, Int.toNat_natCast];refine .chk (by rw [matesTo_len]; simp; omega) (.chk (i64_small (by omega)) (.some ⟨rfl, (matesTo_succ s g k).symm⟩))
  ·rintro ⟨i, l⟩ hi hx;simp only at hi hx;subst hi hx;unfold P_r4_Mates_L1;exact .ifn (by unfold lvs; omega) (.some rfl)
 rw [this]
end Go.Am
end
section
namespace Go.Am
set_option linter.unusedVariables false
structure GoodBook (s : Int) (g : List Gat) : Prop where
 b0 : (bookErr (bk s g)).2.2 = 0
 nl : (lvs s g).length ≤ 120
theorem GoodCase.book {s : Int} {g : List Gat} {its : List Item} (h : GoodCase s g its) : GoodBook s g := ⟨h.b0, h.nl⟩
theorem All1_ok {s : Int} {g : List Gat} (h : GoodBook s g) : P_r1_All s g = some (lvs s g) := by unfold P_r1_All; rw [chk_pos (book_fits h.b0)]; rfl
theorem has_ok {l : List Int} {n : Int} (h : l.length ≤ 1000000) : P_r1_Has l n = some (decide (n ∈ l)) := by unfold P_r1_Has; rw [chk_pos (by omega)]
theorem Gone_ok {s : Int} {g : List Gat} {t : List Int} (h : GoodBook s g) (ht : t.length ≤ 1000000) : P_r4_Gone s g t = some (lostOf (lvs s g).length t) := by
 refine Ok.get ?_;unfold P_r4_Gone;refine .andx' (All1_ok h) ?_
 have hl := h.nl;refine Ok.andx (P := fun l => l = lostOf (lvs s g).length t) (Ok.count Prod.fst (lvs s g).length (fun k s => s.2 = lostOf k t) rfl rfl ?_ ?_) fun _ h => .some h
 ·rintro k ⟨x, l⟩ hk hx hl';simp only at hx hl';subst hx hl'
  have hlen := lostOf_len k t;unfold P_r4_Gone_L1;refine .ifp (by omega) (Ok.andx (P := fun l => l = lostOf (k + 1) t) ?_ ?_)
  ·refine .andx' (has_ok ht) ?_;refine .ite (fun hc => ?_) (fun hc => ?_)
   ·refine .some ?_
    show _ = _;rw [lostOf_succ, if_neg (fun h => h (of_decide_eq_true hc))]
   ·refine .chk (by simp; omega) (.some ?_)
    show _ = _;rw [lostOf_succ, if_pos (fun h => hc (decide_eq_true h))]
  ·rintro l' rfl;exact .chk (i64_small (by omega)) (.some ⟨rfl, rfl⟩)
 ·rintro ⟨x, l⟩ hx hl';simp only at hx hl';unfold P_r4_Gone_L1;exact .ifn (by omega) (.some hl')
theorem mates_len (s : Int) (g : List Gat) : (matesOf s g).length = (lvs s g).length := matesTo_len _ _ _
theorem Pieces_ok {s : Int} {g : List Gat} {gone : List Int} (h : GoodBook s g) (hr : ∀ x ∈ gone, 0 ≤ x ∧ x < (lvs s g).length) (hl : gone.length ≤ 1000000) : P_r4_Pieces s g gone = some (piecesOf (matesOf s g) gone) := by
 refine Ok.get ?_;unfold P_r4_Pieces;refine .andx' (Mates_ok h.b0 h.nl) ?_
 have hml := mates_len s g;generalize matesOf s g = mt at *;refine Ok.andx (P := fun l => l = piecesOf mt gone) (Ok.count (fun s => s.2) gone.length (fun k (s : Int × Int) => s.1 = (((gone.take k).countP (isPiece mt gone) : Nat) : Int)) rfl rfl ?_ ?_) fun _ h => .some h
 ·rintro k ⟨n, x⟩ hk hx hn;simp only at hx hn;subst hx hn
  have hcl := List.countP_le_length (p := isPiece mt gone) (l := gone.take k)
  have htl : (gone.take k).length ≤ 1000000 := by rw [List.length_take]; omega
  unfold P_r4_Pieces_L1;refine .ifp (by omega) (Ok.andx (P := fun l => l = (((gone.take (k + 1)).countP (isPiece mt gone) : Nat) : Int)) ?_ ?_)
  ·refine .el (by omega) fun a ha => ?_
   have ha := get_of ha rfl
   have har := hr a (List.mem_of_getElem? ha);refine .el (by rw [hml]; exact har) fun b hb => ?_
   have hmf : mateF mt a = b := by unfold mateF; rw [hb]
   have hcp : (gone.take (k + 1)).countP (isPiece mt gone) = (gone.take k).countP (isPiece mt gone) + (if isPiece mt gone a = true then 1 else 0) := by
    rw [take_snoc ha, List.countP_append, List.countP_singleton]
   refine Ok.andx (P := fun c : Bool => c = true ↔ isPiece mt gone a = true) ?_ ?_
   ·unfold isPiece;rw [hmf, decide_eq_true_iff];refine .ite (fun h => .some ?_) (fun h => ?_)
    ·simp only [true_iff]; exact .inl h
    ·refine .el (by omega) fun a' ha' => ?_
     have ha' := get_of ha' rfl;rw [ha] at ha';cases ha';refine .ite (fun h2 => .some ?_) (fun h2 => ?_)
     ·simp only [true_iff]; exact .inr (.inl h2)
     ·refine .andx' (has_ok hl) (.some ?_);simp only [Bool.not_eq_true', decide_eq_false_iff_not];exact ⟨fun h3 => .inr (.inr h3), fun h3 => h3.elim (fun h3 => absurd h3 h) fun h3 => h3.elim (fun h3 => absurd h3 h2) fun h3 => h3⟩
   ·rintro c hcc;refine .ite (fun h => ?_) (fun h => ?_)
    ·refine .chk (i64_small (by omega)) (.some ?_);rw [hcp, if_pos (hcc.1 h)];rfl
    ·refine .some ?_;rw [hcp, if_neg (fun e => h (hcc.2 e))];rfl
  ·rintro c rfl;exact .chk (i64_small (by omega)) (.some ⟨rfl, rfl⟩)
 ·rintro ⟨n, x⟩ hx hn;simp only at hx hn;unfold P_r4_Pieces_L1;refine .ifn (by omega) (.some ?_)
  show n = _;rw [hn, List.take_length]; rfl
def plainOf (t : List Int) : List Int := idxTo (isPlain t) t t.length
theorem Plain_ok {t : List Int} (ht : t.length ≤ 1000000) : P_r4_Plain t = some (plainOf t) := by
 refine Ok.get ?_;unfold P_r4_Plain;refine Ok.andx (P := fun l => l = plainOf t) (Ok.count Prod.fst t.length (fun k s => s.2 = idxTo (isPlain t) t k) rfl rfl ?_ ?_) fun _ h => .some h
 ·rintro k ⟨x, l⟩ hk hx hl';simp only at hx hl';subst hx hl'
  have hlen := idxTo_len (isPlain t) t k;unfold P_r4_Plain_L1;refine .ifp (by omega) (Ok.andx (P := fun l => l = idxTo (isPlain t) t (k + 1)) ?_ ?_)
  ·have hn : t[k]? = some t[k] := List.getElem?_eq_getElem hk;generalize t[k] = n at hn;rw [idxTo_succ hn];refine Ok.andx (P := fun b : Bool => b = isPlain t k n) ?_ ?_
   ·refine .el (by omega) fun a ha => ?_
    have ha := get_of ha rfl;rw [hn] at ha;cases ha;refine .ite (fun h0 => ?_) (fun h0 => ?_)
    ·refine .chk (by omega) (.el (by omega) fun a ha => ?_)
     have ha := get_of ha rfl;rw [hn] at ha;cases ha
     have e : (List.take ((k : Int) - 0).toNat (List.drop (0 : Int).toNat t)) = t.take k := by rw [show ((k : Int) - 0).toNat = k by omega]; rfl
     rw [e];refine .andx' (has_ok (by rw [List.length_take]; omega)) (.some ?_)
     show (!decide (n ∈ t.take k)) = decide (0 ≤ n ∧ n ∉ t.take k)
     by_cases hm : n ∈ t.take k <;> simp [hm]
     omega
    ·exact .some (decide_eq_false (fun h => h0 h.1)).symm
   ·rintro b rfl;refine .ite (fun h => ?_) (fun h => ?_)
    ·exact .chk (by simp; omega) (.some (by simp only [h, if_true]))
    ·exact .some (by simp only [h]; rfl)
  ·rintro l' rfl;exact .chk (i64_small (by omega)) (.some ⟨rfl, rfl⟩)
 ·rintro ⟨x, l⟩ hx hl';simp only at hx hl';unfold P_r4_Plain_L1;exact .ifn (by omega) (.some hl')
theorem mem_idxTo {p : Nat → Int → Bool} {t : List Int} {i : Nat} {n : Int} (hn : t[i]? = some n) : ∀ k, (i : Int) ∈ idxTo p t k ↔ i < k ∧ p i n = true := by
 intro k
 induction k with
 | zero => simp [idxTo]
 | succ k ih =>
  rw [idxTo, List.mem_append, ih]
  constructor
  ·rintro (⟨h1, h2⟩ | h)
   ·exact ⟨by omega, h2⟩
   ·split at h
    ·rename_i m hm
     split at h
     ·rename_i hp
      rw [List.mem_singleton] at h
      have : i = k := by omega
      subst this;rw [hn] at hm;cases hm;exact ⟨by omega, hp⟩
     ·cases h
    ·cases h
  ·rintro ⟨h1, h2⟩
   by_cases e : i = k
   ·subst e;rw [hn];simp only [h2, if_true];exact .inr (List.mem_singleton_self _)
   ·exact .inl ⟨by omega, h2⟩
theorem idxTo_nat {p : Nat → Int → Bool} {t : List Int} : ∀ k, ∀ x ∈ idxTo p t k, ∃ i : Nat, x = i ∧ i < k ∧ ∃ n, t[i]? = some n ∧ p i n = true := by
 intro k
 induction k with
 | zero => intro x h; cases h
 | succ k ih =>
  intro x h;rw [idxTo, List.mem_append] at h
  rcases h with h | h
  ·obtain ⟨i, h1, h2, h3⟩ := ih x h;exact ⟨i, h1, by omega, h3⟩
  ·split at h
   ·rename_i m hm
    split at h
    ·rename_i hp
     rw [List.mem_singleton] at h;exact ⟨k, h, by omega, m, hm, hp⟩
    ·cases h
   ·cases h
def tAt (t : List Int) (i : Int) : Int := match t[i.toNat]? with | some n => n | none => 0
def runsL (g : Int → Int) (t : List Int) (l : List Int) : List S_copy_run := l.foldl (fun l i => rnStep g l i (tAt t i)) []
theorem runsTo_L (g : Int → Int) (t : List Int) : ∀ k, runsTo g t k = runsL g t (idxTo (isPlain t) t k) := by
 intro k
 induction k with
 | zero => rfl
 | succ k ih =>
  rw [runsTo, idxTo];cases h : t[k]? with
  | none => simp only [List.append_nil]; exact ih
  | some n =>
   simp only;split
   ·rw [runsL, List.foldl_append, List.foldl_cons, List.foldl_nil]
    have e : tAt t k = n := by unfold tAt; rw [Int.toNat_natCast, h]
    rw [e, ih];rfl
   ·rw [List.append_nil]; exact ih
theorem rnStep_pos (g : Int → Int) (l : List S_copy_run) (i n : Int) : 1 ≤ (rnStep g l i n).length := by
 unfold rnStep;split
 ·rename_i r hr
  have := (List.getElem?_eq_some_iff.1 hr).1;split <;> simp <;> omega
 ·simp
theorem runsL_pos {g : Int → Int} {t : List Int} {l : List Int} (h : l ≠ []) : 1 ≤ (runsL g t l).length := by
 obtain ⟨a, b, rfl⟩ : ∃ a b, l = a ++ [b] := ⟨l.dropLast, l.getLast h, (List.dropLast_concat_getLast h).symm⟩;rw [runsL, List.foldl_append];exact rnStep_pos _ _ _ _
theorem runsL_ok {g : Int → Int} {t : List Int} {N : Nat} : ∀ (l : List Int), (∀ i ∈ l, 0 ≤ tAt t i ∧ tAt t i < N) → (∀ r ∈ runsL g t l, RunOk N r) ∧ (runsL g t l).length ≤ l.length := by
 intro l
 suffices h : ∀ (l : List Int) (acc : List S_copy_run), (∀ i ∈ l, 0 ≤ tAt t i ∧ tAt t i < N) → (∀ r ∈ acc, RunOk N r) → (∀ r ∈ l.foldl (fun l i => rnStep g l i (tAt t i)) acc, RunOk N r) ∧ (l.foldl (fun l i => rnStep g l i (tAt t i)) acc).length ≤ acc.length + l.length by
  intro hl
  have := h l [] hl (by simp);exact ⟨this.1, Nat.le_trans this.2 (by simp)⟩
 intro l
 induction l with
 | nil => intro acc _ h; exact ⟨h, Nat.le_refl _⟩
 | cons i l ih =>
  intro acc h1 h2
  have h3 := ih (rnStep g acc i (tAt t i)) (fun j hj => h1 j (List.mem_cons_of_mem _ hj)) (rnStep_ok h2 (h1 i List.mem_cons_self));refine ⟨h3.1, ?_⟩
  have := rnStep_len (g := g) (l := acc) (i := i) (n := tAt t i);rw [List.foldl_cons, List.length_cons];omega
def toC (r : S_duodecimoref04_Run) : S_copy_run := ⟨r.item, r.first, r.last⟩
theorem Runs_ok {s : Int} {g : List Gat} {t : List Int} (h : GoodBook s g) (ht : t.length ≤ 120) (hin : TruthIn (lvs s g).length t) :
    ∃ rs, P_r4_Runs s g t = some rs ∧ rs.map toC = runsOf (gathOf (lvs s g)) t := by
  suffices k : Ok (P_r4_Runs s g t) (fun rs => rs.map toC = runsOf (gathOf (lvs s g)) t) from k
  unfold P_r4_Runs
  refine .andx' (All1_ok h) (.andx' (Plain_ok (by omega)) ?_)
  generalize hlv : lvs s g = lv at *
  have hpl : (plainOf t).length ≤ t.length := idxTo_len _ _ _
  have hpn : ∀ i ∈ plainOf t, ∃ j : Nat, i = j ∧ j < t.length ∧ ∃ n, t[j]? = some n ∧ isPlain t j n = true := idxTo_nat t.length
  have hat : ∀ i ∈ plainOf t, 0 ≤ tAt t i ∧ tAt t i < lv.length := fun i hi => by
    obtain ⟨j, rfl, hj, n, hn, hp⟩ := hpn i hi
    have e : tAt t j = n := by unfold tAt; rw [Int.toNat_natCast, hn]
    rw [e]
    exact ⟨(of_decide_eq_true hp).1, hin n (List.mem_of_getElem? hn)⟩
  unfold runsOf
  rw [runsTo_L]
  show Ok _ (fun rs : List S_duodecimoref04_Run => rs.map toC = runsL (gathOf lv) t (plainOf t))
  refine Ok.andx (P := fun rs : List S_duodecimoref04_Run => rs.map toC = runsL (gathOf lv) t (plainOf t)) (Ok.count Prod.fst (plainOf t).length (fun k s => s.2.map toC = runsL (gathOf lv) t ((plainOf t).take k)) rfl rfl ?_ ?_) fun _ h => .some h
  · rintro k ⟨x, out⟩ hk hx ho
    simp only at hx ho
    subst hx
    have hi : (plainOf t)[k]? = some (plainOf t)[k] := List.getElem?_eq_getElem hk
    generalize (plainOf t)[k] = i at hi
    have him := List.mem_of_getElem? hi
    obtain ⟨j, rfl, hj, n, hn, hp⟩ := hpn i him
    have e : tAt t j = n := by unfold tAt; rw [Int.toNat_natCast, hn]
    have hnr := hat j him
    rw [e] at hnr
    have hro := runsL_ok (g := gathOf lv) (t := t) (N := lv.length) ((plainOf t).take k) fun i hi => hat i (List.mem_of_mem_take hi)
    rw [← ho, List.length_map, List.length_take] at hro
    have hstep : runsL (gathOf lv) t ((plainOf t).take (k + 1)) = rnStep (gathOf lv) (out.map toC) j n := by
      rw [take_snoc hi, runsL, List.foldl_append, List.foldl_cons, List.foldl_nil, e, ho]
      rfl
    have hget : ∀ r, out[out.length - 1]? = some r → (out.map toC)[(out.map toC).length - 1]? = some (toC r) := fun r hr => by rw [List.length_map, List.getElem?_map, hr]; rfl
    unfold P_r4_Runs_L1
    refine .ifp (by omega) (Ok.andx (P := fun o : List S_duodecimoref04_Run => o.map toC = runsL (gathOf lv) t ((plainOf t).take (k + 1))) ?_ ?_)
    · rw [hstep]
      refine .el (by omega) fun a ha => ?_
      have ha := get_of ha rfl
      rw [hi] at ha
      cases ha
      refine .el (by omega) fun b hb => ?_
      have hb := get_of hb rfl
      rw [hn] at hb
      cases hb
      refine Ok.seqx ?_
      have happ : rnStep (gathOf lv) (out.map toC) j n = (out.map toC) ++ [⟨j, n, n⟩] → OkX (fun x : Unit => el (plainOf t) (k : Int) fun a63 => chk (out.length + [(⟨a63, n, n⟩ : S_duodecimoref04_Run)].length < 1000000000) (some (out ++ [(⟨a63, n, n⟩ : S_duodecimoref04_Run)]))) (fun o => o.map toC = rnStep (gathOf lv) (out.map toC) j n) (Ex.nx ()) := fun e => by
        show Ok _ _
        refine .el (by omega) fun a ha => ?_
        have ha := get_of ha rfl
        rw [hi] at ha
        cases ha
        refine .chk (by simp; omega) (.some ?_)
        rw [e, List.map_append]
        rfl
      refine .ite (fun hk0 => ?_) (fun hk0 => ?_)
      · have hpos : 1 ≤ out.length := by
          have := runsL_pos (g := gathOf lv) (t := t) (l := (plainOf t).take k) (fun e => by
            have := congrArg List.length e
            rw [List.length_take, List.length_nil] at this
            omega)
          rw [← ho, List.length_map] at this
          exact this
        refine .chk (i64_small (by omega)) (.el (by omega) fun r hr => ?_)
        have hr : out[out.length - 1]? = some r := get_of hr (by omega)
        have hr2 := hget r hr
        have hrk := hro.1 (toC r) (List.mem_map_of_mem (List.mem_of_getElem? hr))
        refine Ok.andx (P := fun b : Bool => b = true ↔ (r.last < n ∧ gathOf lv r.last = gathOf lv n)) ?_ ?_
        · refine .el ⟨hrk.2.2.1, hrk.2.2.2⟩ fun a ha => .el hnr fun b hb => ?_
          have ga : gathOf lv r.last = a.g := by unfold gathOf; rw [show lv[r.last.toNat]? = some a from ha]
          have gb : gathOf lv n = b.g := by unfold gathOf; rw [hb]
          rw [ga, gb]
          refine .ite (fun hc => .some ?_) (fun hc => .some ?_)
          · rw [decide_eq_true_iff]; exact ⟨fun h => ⟨h, hc⟩, fun h => h.1⟩
          · simp [hc]
        · rintro b hb
          refine .ite (fun hc => ?_) (fun hc => ?_)
          · refine .chk (i64_small (by omega)) (.el (by omega) fun r' hr' => ?_)
            have hr' : out[out.length - 1]? = some r' := get_of hr' (by omega)
            rw [hr] at hr'
            cases hr'
            refine .some ?_
            show List.map toC _ = _
            unfold rnStep
            rw [hr2]
            simp only
            rw [if_pos (show (toC r).last < n ∧ gathOf lv (toC r).last = gathOf lv n from hb.1 hc), List.map_set, show ((out.length : Int) - 1).toNat = out.length - 1 by omega, List.length_map]
            rfl
          · refine .some (happ ?_)
            unfold rnStep
            rw [hr2]
            simp only
            rw [if_neg (show ¬ ((toC r).last < n ∧ gathOf lv (toC r).last = gathOf lv n) from fun h => hc (hb.2 h))]
      · refine .some (happ ?_)
        have : k = 0 := by omega
        subst this
        rw [List.take_zero] at ho
        rw [ho]
        rfl
    · rintro o ho'
      exact .chk (i64_small (by omega)) (.some ⟨rfl, ho'⟩)
  · rintro ⟨x, out⟩ hx ho
    simp only at hx ho
    unfold P_r4_Runs_L1
    refine .ifn (by omega) (.some ?_)
    show out.map toC = _
    rw [ho, List.take_length]
end Go.Am
end
section
namespace Go.Am
set_option linter.unusedVariables false
def f2step (last k : Int) (p : S_copy_run × Int) (s : Int × Int) : Int × Int := if p.1.first > last ∧ p.2 + 1 > s.1 then (p.2 + 1, k) else s
def follow2 (last : Int) : List (S_copy_run × Int) → Int → Int × Int → Int × Int
 | [], _, s => s
 | p :: ps, k, s => follow2 last ps (k + 1) (f2step last k p s)
theorem follow2_snoc {last : Int} {p : S_copy_run × Int} : ∀ (ps : List (S_copy_run × Int)) (k : Int) (s : Int × Int), follow2 last (ps ++ [p]) k s = f2step last (k + ps.length) p (follow2 last ps k s) := by
 intro ps
 induction ps with
 | nil => intro k s; simp [follow2]
 | cons q ps ih =>
  intro k s;rw [List.cons_append, follow2, ih, follow2, List.length_cons]
  congr 1
  omega
def keptFrom : List (S_copy_run × Int) → Int → Int → Int → List Int
 | [], _, _, _ => []
 | p :: ps, k, b, last => if p.2 = b ∧ p.1.first > last then k :: keptFrom ps (k + 1) (b - 1) p.1.last else keptFrom ps (k + 1) b last
theorem keptFrom_zero : ∀ (ps : List (S_copy_run × Int)) (k last : Int), (∀ p ∈ ps, 1 ≤ p.2) → keptFrom ps k 0 last = [] := by
 intro ps
 induction ps with
 | nil => intro k last _; rfl
 | cons p ps ih =>
  intro k last h
  have := h p List.mem_cons_self;rw [keptFrom, if_neg (by omega)];exact ih _ _ fun q hq => h q (List.mem_cons_of_mem _ hq)
theorem follow_cons (last : Int) (p : S_copy_run × Int) (ps : List (S_copy_run × Int)) (a : Int) : follow last (p :: ps) a = follow last ps (if p.1.first > last then max a p.2 else a) := rfl
theorem follow_ge (last : Int) : ∀ (ps : List (S_copy_run × Int)) (a : Int), a ≤ follow last ps a := by
 intro ps
 induction ps with
 | nil => intro a; exact Int.le_refl _
 | cons p ps ih =>
  intro a;rw [follow_cons]
  have := ih (if p.1.first > last then max a p.2 else a);split at this <;> rename_i h
  ·rw [if_pos h]; omega
  ·rw [if_neg h]; exact this
theorem first_best (last : Int) : ∀ (ps : List (S_copy_run × Int)) (k a x : Int),
  (follow2 last ps k (a + 1, x)).1 = follow last ps a + 1 ∧ (follow last ps a = a → (follow2 last ps k (a + 1, x)).2 = x) ∧
  (follow last ps a > a → ∃ (j : Nat) (p : S_copy_run × Int), ps[j]? = some p ∧ (follow2 last ps k (a + 1, x)).2 = k + j ∧ p.2 = follow last ps a ∧ keptFrom ps k (follow last ps a) last = (k + j) :: keptFrom (ps.drop (j + 1)) (k + j + 1) (follow last ps a - 1) p.1.last) := by
 intro ps
 induction ps with
 | nil => intro k a x; exact ⟨rfl, fun _ => rfl, fun h => by simp [follow] at h⟩
 | cons p ps ih =>
  intro k a x;rw [follow_cons, follow2]
  by_cases hc : p.1.first > last ∧ p.2 > a
  ·have e1 : f2step last k p (a + 1, x) = (p.2 + 1, k) := by unfold f2step; rw [if_pos ⟨hc.1, by simp only; omega⟩]
   have e2 : (if p.1.first > last then max a p.2 else a) = p.2 := by rw [if_pos hc.1]; omega
   rw [e1, e2];obtain ⟨i1, i2, i3⟩ := ih (k + 1) p.2 k
   have hge := follow_ge last ps p.2;refine ⟨i1, fun h => by omega, fun _ => ?_⟩
   by_cases hF : follow last ps p.2 = p.2
   ·refine ⟨0, p, rfl, by rw [i2 hF]; simp, hF.symm, ?_⟩;rw [hF, keptFrom, if_pos ⟨rfl, hc.1⟩];simp
   ·obtain ⟨j, q, h1, h2, h3, h4⟩ := i3 (by omega);refine ⟨j + 1, q, h1, by rw [h2]; omega, h3, ?_⟩;rw [keptFrom, if_neg (by omega), h4, List.drop_succ_cons];rw [show k + 1 + (j : Int) = k + ((j + 1 : Nat) : Int) by omega]
  ·have e1 : f2step last k p (a + 1, x) = (a + 1, x) := by unfold f2step; rw [if_neg (fun h => hc ⟨h.1, by have := h.2; simp only at this; omega⟩)]
   have e2 : (if p.1.first > last then max a p.2 else a) = a := by
    split
    ·rename_i h; have : ¬ p.2 > a := fun h2 => hc ⟨h, h2⟩; omega
    ·rfl
   rw [e1, e2];obtain ⟨i1, i2, i3⟩ := ih (k + 1) a x;refine ⟨i1, i2, fun hF => ?_⟩;obtain ⟨j, q, h1, h2, h3, h4⟩ := i3 hF;refine ⟨j + 1, q, h1, by rw [h2]; omega, h3, ?_⟩;rw [keptFrom, if_neg (fun h => hc ⟨h.2, by omega⟩), h4, List.drop_succ_cons];rw [show k + 1 + (j : Int) = k + ((j + 1 : Nat) : Int) by omega]
theorem chains_drop : ∀ (l : List S_copy_run) (i : Nat), chains (l.drop i) = (chains l).drop i := by
 intro l
 induction l with
 | nil => intro i; simp [chains]
 | cons r l ih =>
  intro i;cases i with
  | zero => rfl
  | succ i => rw [List.drop_succ_cons, chains, List.drop_succ_cons]; exact ih i
def nextsFrom : Int → List S_copy_run → List Int
 | _, [] => []
 | k, r :: l => (follow2 r.last (l.zip (chains l)) (k + 1) (1, -1)).2 :: nextsFrom (k + 1) l
theorem nextsFrom_len : ∀ (l : List S_copy_run) (k : Int), (nextsFrom k l).length = l.length := by
 intro l
 induction l with
 | nil => intro k; rfl
 | cons r l ih => intro k; simp [nextsFrom, ih]
theorem nextsFrom_drop : ∀ (l : List S_copy_run) (k : Int) (i : Nat), nextsFrom (k + i) (l.drop i) = (nextsFrom k l).drop i := by
 intro l
 induction l with
 | nil => intro k i; simp [nextsFrom]
 | cons r l ih =>
  intro k i;cases i with
  | zero => simp
  | succ i =>
   rw [List.drop_succ_cons, nextsFrom, List.drop_succ_cons, ← ih (k + 1) i]
   congr 1
   omega
def behind (l : List S_copy_run) (i : Nat) : List (S_copy_run × Int) := (l.drop (i + 1)).zip (chains (l.drop (i + 1)))
theorem behind_len {l : List S_copy_run} {i : Nat} : (behind l i).length = l.length - (i + 1) := by unfold behind; rw [List.length_zip, chains_len, List.length_drop]; omega
theorem behind_get {l : List S_copy_run} {i m : Nat} {r : S_copy_run} (h : l[i + 1 + m]? = some r) : ∃ c, (chains l)[i + 1 + m]? = some c ∧ (behind l i)[m]? = some (r, c) := by
 have hlt := (List.getElem?_eq_some_iff.1 h).1
 have hc : (chains l)[i + 1 + m]? = some ((chains l)[i + 1 + m]'(by rw [chains_len]; exact hlt)) := List.getElem?_eq_getElem _;refine ⟨_, hc, ?_⟩;unfold behind;rw [List.getElem?_zip_eq_some, List.getElem?_drop, chains_drop, List.getElem?_drop];exact ⟨h, hc⟩
theorem chains_at {l : List S_copy_run} {i : Nat} {r : S_copy_run} (h : l[i]? = some r) : (chains l)[i]? = some (follow r.last (behind l i) 0 + 1) := by
 have e := chains_drop l i;rw [drop_cons h, chains] at e
 have := congrArg (·[0]?) e;simp only [List.getElem?_drop, Nat.add_zero, List.getElem?_cons_zero] at this;rw [← this]; rfl
theorem nexts_at {l : List S_copy_run} {i : Nat} {r : S_copy_run} (h : l[i]? = some r) : (nextsFrom 0 l)[i]? = some (follow2 r.last (behind l i) ((i : Int) + 1) (1, -1)).2 := by
 have e := nextsFrom_drop l 0 i;rw [drop_cons h, nextsFrom] at e
 have := congrArg (·[0]?) e;simp only [List.getElem?_drop, Nat.add_zero, List.getElem?_cons_zero] at this;rw [← this, Int.zero_add]; rfl
theorem behind_pos {l : List S_copy_run} {i : Nat} : ∀ p ∈ behind l i, 1 ≤ p.2 := fun p hp => (chains_bounds _ p.2 (List.of_mem_zip hp).2).1
theorem zip_drop {α β : Type} : ∀ (k : Nat) (l : List α) (m : List β), (l.zip m).drop k = (l.drop k).zip (m.drop k) := by
 intro k
 induction k with
 | zero => intro l m; rfl
 | succ k ih =>
  intro l m;cases l with
  | nil => simp
  | cons a l => cases m with
   | nil => simp
   | cons b m => exact ih l m
theorem behind_drop {l : List S_copy_run} {i j : Nat} : (behind l i).drop (j + 1) = behind l (i + 1 + j) := by
 unfold behind;rw [zip_drop, List.drop_drop, ← chains_drop, List.drop_drop, show i + 1 + (j + 1) = i + 1 + j + 1 by omega]
def rowM (l : List S_copy_run) (i : Nat) : List Int := List.replicate i 0 ++ chains (l.drop i)
def rowN (l : List S_copy_run) (i : Nat) : List Int := List.replicate i 0 ++ nextsFrom i (l.drop i)
theorem rowM_len {l : List S_copy_run} {i : Nat} (hi : i ≤ l.length) : (rowM l i).length = l.length := by
 unfold rowM; rw [List.length_append, List.length_replicate, chains_len, List.length_drop]; omega
theorem rowN_len {l : List S_copy_run} {i : Nat} (hi : i ≤ l.length) : (rowN l i).length = l.length := by
 unfold rowN; rw [List.length_append, List.length_replicate, nextsFrom_len, List.length_drop]; omega
theorem rowM_get {l : List S_copy_run} {i k : Nat} (hk : i ≤ k) : (rowM l i)[k]? = (chains l)[k]? := by
 unfold rowM;rw [List.getElem?_append_right (by rw [List.length_replicate]; exact hk), List.length_replicate, chains_drop, List.getElem?_drop, show i + (k - i) = k by omega]
theorem rowM_step {l : List S_copy_run} {i : Nat} {r : S_copy_run} (hr : l[i]? = some r) : (rowM l (i + 1)).set i (follow r.last (behind l i) 0 + 1) = rowM l i := by
 have e : List.replicate (i + 1) (0 : Int) = List.replicate i 0 ++ [0] := List.replicate_succ';unfold rowM;rw [e, List.append_assoc, List.set_append_right _ _ (by rw [List.length_replicate]; omega), List.length_replicate, Nat.sub_self, drop_cons hr, chains];rfl
theorem rowN_step {l : List S_copy_run} {i : Nat} {r : S_copy_run} (hr : l[i]? = some r) : (rowN l (i + 1)).set i (follow2 r.last (behind l i) ((i : Int) + 1) (1, -1)).2 = rowN l i := by
 have e : List.replicate (i + 1) (0 : Int) = List.replicate i 0 ++ [0] := List.replicate_succ';unfold rowN;rw [e, List.append_assoc, List.set_append_right _ _ (by rw [List.length_replicate]; omega), List.length_replicate, Nat.sub_self, drop_cons hr, nextsFrom];rfl
theorem kinner_ok {rs : List S_duodecimoref04_Run} {l : List S_copy_run} (hl : l = rs.map toC) (hn : l.length ≤ 120) {i : Nat} {r : S_copy_run} (hr : l[i]? = some r) :
  iter (P_r4_Kept_L2 rs i) (((i : Int) + 1), (rowN l (i + 1)).set i (-1), (rowM l (i + 1)).set i 1) = some (rowN l i, rowM l i) := by
 have hi : i < l.length := (List.getElem?_eq_some_iff.1 hr).1
 have hll : l.length = rs.length := by rw [hl, List.length_map]
 have hcb := chains_bounds l;refine Ok.get ?_;refine Ok.count (fun s => s.1 - ((i : Int) + 1)) (l.length - (i + 1)) (fun k s => s.2.1 = (rowN l (i + 1)).set i (follow2 r.last ((behind l i).take k) ((i : Int) + 1) (1, -1)).2 ∧ s.2.2 = (rowM l (i + 1)).set i (follow2 r.last ((behind l i).take k) ((i : Int) + 1) (1, -1)).1) (by simp only; omega) ⟨rfl, rfl⟩ ?_ ?_
 ·rintro k ⟨kk, nx, many⟩ hk hx ⟨h1, h2⟩;simp only at hx h1 h2
  have hkk : kk = ((i + 1 + k : Nat) : Int) := by omega
  subst hkk h1 h2;obtain ⟨q, hq⟩ : ∃ q, l[i + 1 + k]? = some q := ⟨_, List.getElem?_eq_getElem (by omega)⟩;obtain ⟨c, hc1, hc2⟩ := behind_get hq
  have hcv := hcb c (List.mem_of_getElem? hc1)
  have hst : follow2 r.last ((behind l i).take (k + 1)) ((i : Int) + 1) (1, -1) = f2step r.last ((i + 1 + k : Nat) : Int) (q, c) (follow2 r.last ((behind l i).take k) ((i : Int) + 1) (1, -1)) := by
   rw [take_snoc hc2, follow2_snoc, List.length_take, behind_len]
   congr 1
   omega
  have hrs : ∀ (k : Nat) (a : S_duodecimoref04_Run), rs[k]? = some a → l[k]? = some (toC a) := fun k a h => by rw [hl, List.getElem?_map, h]; rfl
  have hmk : ((rowM l (i + 1)).set i (follow2 r.last ((behind l i).take k) ((i : Int) + 1) (1, -1)).1)[i + 1 + k]? = some c := by
   rw [List.getElem?_set_ne (by omega), rowM_get (by omega), hc1]
  have hmi : ∀ x, ((rowM l (i + 1)).set i x)[i]? = some x := fun x => List.getElem?_set_self (by rw [rowM_len (by omega)]; exact hi)
  generalize hS : follow2 r.last ((behind l i).take k) ((i : Int) + 1) (1, -1) = S at *;obtain ⟨S1, S2⟩ := S;simp only at hmk ⊢
  have hlM : ((rowM l (i + 1)).set i S1).length = l.length := by rw [List.length_set, rowM_len (by omega)]
  have hlN : ((rowN l (i + 1)).set i S2).length = l.length := by rw [List.length_set, rowN_len (by omega)]
  unfold P_r4_Kept_L2;refine .ifp (by omega) (Ok.andx (P := fun s : List Int × List Int => s.1 = (rowN l (i + 1)).set i (follow2 r.last ((behind l i).take (k + 1)) ((i : Int) + 1) (1, -1)).2 ∧ s.2 = (rowM l (i + 1)).set i (follow2 r.last ((behind l i).take (k + 1)) ((i : Int) + 1) (1, -1)).1) ?_ ?_)
  ·rw [hst];refine Ok.andx (P := fun b : Bool => b = true ↔ (q.first > r.last ∧ c + 1 > S1)) ?_ ?_
   ·refine .el (by omega) fun a ha => ?_
    have ha := hrs _ _ (get_of ha rfl);rw [hq] at ha;cases ha;refine .el (by omega) fun b hb => ?_
    have hb := hrs _ _ (get_of hb rfl);rw [hr] at hb;cases hb;refine .ite (fun h => ?_) (fun h => ?_)
    ·refine .el (by rw [hlM]; omega) fun x hx => ?_
     have hx := get_of hx rfl;rw [hmk] at hx;cases hx;refine .chk (i64_small (by omega)) (.el (by rw [hlM]; omega) fun y hy => .some ?_)
     have hy := get_of hy rfl;rw [hmi] at hy;cases hy;rw [decide_eq_true_iff];exact ⟨fun h2 => ⟨h, h2⟩, fun h2 => h2.2⟩
    ·refine .some ?_;simp only [Bool.false_eq_true, false_iff];exact fun h2 => h h2.1
   ·rintro b hb;unfold f2step;refine .ite (fun h => ?_) (fun h => ?_)
    ·refine .el (by rw [hlM]; omega) fun x hx => ?_
     have hx := get_of hx rfl;rw [hmk] at hx;cases hx;refine .chk (i64_small (by omega)) (.el (by rw [hlM]; omega) fun y hy => .el (by rw [hlN]; omega) fun z hz => .some ?_);rw [if_pos (hb.1 h), Int.toNat_natCast, List.set_set, List.set_set];exact ⟨rfl, rfl⟩
    ·refine .some ?_;rw [if_neg (fun h2 => h (hb.2 h2))];exact ⟨rfl, rfl⟩
  ·rintro ⟨a, b⟩ ⟨q1, q2⟩;exact .chk (i64_small (by omega)) (.some ⟨by simp only; omega, q1, q2⟩)
 ·rintro ⟨kk, nx, many⟩ hx ⟨h1, h2⟩;simp only at hx h1 h2;unfold P_r4_Kept_L2;refine .ifn (by omega) (.some ?_)
  show (nx, many) = _;rw [h1, h2, List.take_of_length_le (by rw [behind_len]; omega), rowN_step hr]
  have := (first_best r.last (behind l i) ((i : Int) + 1) 0 (-1)).1;rw [Int.zero_add] at this;rw [this, rowM_step hr]
theorem top_follow (last : Int) : ∀ (ps : List (S_copy_run × Int)) (a : Int), (∀ p ∈ ps, p.1.first > last) → follow last ps a = max a (top (ps.map (·.2))) ∨ a < 0 := by
 intro ps
 induction ps with
 | nil => intro a _; simp only [follow, List.foldl_nil, List.map_nil, top]; omega
 | cons p ps ih =>
  intro a h;rw [follow_cons, if_pos (h p List.mem_cons_self), List.map_cons, top]
  have := ih (max a p.2) fun q hq => h q (List.mem_cons_of_mem _ hq)
  omega
def keptOf (l : List S_copy_run) : List Int := keptFrom (l.zip (chains l)) 0 (top (chains l)) (-1)
def restAt (l : List S_copy_run) (i : Nat) (r : S_copy_run) : List Int := (i : Int) :: keptFrom (behind l i) ((i : Int) + 1) (follow r.last (behind l i) 0) r.last
theorem Kept_ok {rs : List S_duodecimoref04_Run} {l : List S_copy_run} {N : Nat} (hl : l = rs.map toC) (hn : l.length ≤ 120) (hr : ∀ r ∈ l, RunOk N r) : P_r4_Kept rs = some (keptOf l) := by
 refine Ok.get ?_
 have hll : l.length = rs.length := by rw [hl, List.length_map]
 have hcb := chains_bounds l;unfold P_r4_Kept;refine .chk (by omega) (.chk (by omega) (Ok.andx (P := fun s : List Int × List Int => s = (nextsFrom 0 l, chains l)) ?_ ?_))
 ·refine .chk (i64_small (by omega)) (Ok.count (fun s => ((rs.length : Int) - 1) - s.1) l.length (fun k s => s.2.1 = rowN l (l.length - k) ∧ s.2.2 = rowM l (l.length - k)) (by simp only; omega) ⟨?_, ?_⟩ ?_ ?_)
  ·simp only [Nat.sub_zero, rowN, List.drop_length, nextsFrom, List.append_nil];rw [Int.toNat_natCast, hll]
  ·simp only [Nat.sub_zero, rowM, List.drop_length, chains, List.append_nil];rw [Int.toNat_natCast, hll]
  ·rintro k ⟨i, nx, many⟩ hk hx ⟨h1, h2⟩;simp only at hx h1 h2;obtain ⟨j, hj⟩ : ∃ j : Nat, j = l.length - 1 - k := ⟨_, rfl⟩
   have hi : i = (j : Int) := by omega
   subst hi;obtain ⟨r, hrj⟩ : ∃ r, l[j]? = some r := ⟨_, List.getElem?_eq_getElem (by omega)⟩
   have e1 : l.length - k = j + 1 := by omega
   have e2 : l.length - (k + 1) = j := by omega
   rw [e1] at h1 h2;subst h1 h2;unfold P_r4_Kept_L1;refine .ifp (by omega) (Ok.andx (P := fun s => s = (rowN l j, rowM l j)) ?_ ?_)
   ·refine .el (by rw [rowM_len (by omega)]; omega) fun a ha => .el (by rw [rowN_len (by omega)]; omega) fun b hb => ?_
    refine .chk (i64_small (by omega)) ?_;rw [Int.toNat_natCast, kinner_ok hl hn hrj];exact .some rfl
   ·rintro s rfl;refine .chk (i64_small (by omega)) (.some ⟨by simp only; omega, ?_, ?_⟩)
    ·simp only [e2]
    ·simp only [e2]
  ·rintro ⟨i, nx, many⟩ hx ⟨h1, h2⟩;simp only at hx h1 h2;unfold P_r4_Kept_L1;refine .ifn (by omega) (.some ?_)
   show (nx, many) = _;rw [h1, h2, Nat.sub_self];unfold rowN rowM;simp
 ·rintro s rfl;simp only
  have hfirst : ∀ p ∈ l.zip (chains l), p.1.first > -1 := fun p hp => by have := (hr p.1 (List.of_mem_zip hp).1).1; omega
  have hzl : (l.zip (chains l)).length = l.length := by rw [List.length_zip, chains_len, Nat.min_self]
  have htop : follow (-1) (l.zip (chains l)) 0 = top (chains l) := by
   have h1 := top_follow (-1) (l.zip (chains l)) 0 hfirst
   have h2 : (l.zip (chains l)).map (·.2) = chains l := by rw [← List.unzip_snd]; rw [List.unzip_zip (chains_len l).symm]
   rw [h2] at h1
   have := (top_bounds (M := 120) (by omega) (chains l) fun m hm => by have := hcb m hm; omega).1;omega
  have hfb := first_best (-1) (l.zip (chains l)) 0 0 (-1);rw [htop, Int.zero_add] at hfb;refine Ok.andx (P := fun a : Int => a = (follow2 (-1) (l.zip (chains l)) 0 (1, -1)).2) (Ok.count (fun s : Int × Int => s.2) l.length (fun k (s : Int × Int) => ∃ a, follow2 (-1) ((l.zip (chains l)).take k) 0 (1, -1) = (a, s.1) ∧ ((s.1 = -1 ∧ a = 1) ∨ ∃ (j : Nat) (c : Int), s.1 = j ∧ j < k ∧ (chains l)[j]? = some c ∧ c + 1 = a)) rfl ⟨1, rfl, .inl ⟨rfl, rfl⟩⟩ ?_ ?_) ?_
  ·rintro k ⟨a, i⟩ hk hx ⟨v, h1, h2⟩;simp only at hx h1 h2;subst hx;obtain ⟨q, hq⟩ : ∃ q, l[k]? = some q := ⟨_, List.getElem?_eq_getElem hk⟩;obtain ⟨c, hc⟩ : ∃ c, (chains l)[k]? = some c := ⟨_, List.getElem?_eq_getElem (by rw [chains_len]; exact hk)⟩
   have hz : (l.zip (chains l))[k]? = some (q, c) := by rw [List.getElem?_zip_eq_some]; exact ⟨hq, hc⟩
   have hq0 := hfirst (q, c) (List.mem_of_getElem? hz)
   have hcv := hcb c (List.mem_of_getElem? hc)
   have hst : follow2 (-1) ((l.zip (chains l)).take (k + 1)) 0 (1, -1) = f2step (-1) k (q, c) (v, a) := by
    rw [take_snoc hz, follow2_snoc, h1, List.length_take, hzl]
    congr 1
    omega
   unfold P_r4_Kept_L3;refine .ifp (by omega) (Ok.andx (P := fun a' => ∃ v', follow2 (-1) ((l.zip (chains l)).take (k + 1)) 0 (1, -1) = (v', a') ∧ ((a' = -1 ∧ v' = 1) ∨ ∃ (j : Nat) (c : Int), a' = j ∧ j < k + 1 ∧ (chains l)[j]? = some c ∧ c + 1 = v')) ?_ ?_)
   ·rw [hst];refine Ok.andx (P := fun b : Bool => b = true ↔ c + 1 > v) ?_ ?_
    ·rcases h2 with ⟨rfl, rfl⟩ | ⟨j, c', rfl, hj, hcj, rfl⟩
     ·refine .ifp (by omega) (.some ?_);simp only [true_iff]; omega
     ·refine .ifn (by omega) (.el (by rw [chains_len]; omega) fun x hx => ?_)
      have hx := get_of hx rfl;rw [hc] at hx;cases hx;refine .el (by rw [chains_len]; omega) fun y hy => .some ?_
      have hy := get_of hy rfl;rw [hcj] at hy;cases hy;rw [decide_eq_true_iff];omega
    ·rintro b hb;unfold f2step;refine .ite (fun h => .some ?_) (fun h => .some ?_)
     ·rw [if_pos ⟨hq0, hb.1 h⟩];exact ⟨c + 1, rfl, .inr ⟨k, c, rfl, by omega, hc, rfl⟩⟩
     ·rw [if_neg (fun h2 => h (hb.2 h2.2))];refine ⟨v, rfl, ?_⟩
      rcases h2 with h2 | ⟨j, c', h3, h4, h5, h6⟩
      ·exact .inl h2
      ·exact .inr ⟨j, c', h3, by omega, h5, h6⟩
   ·rintro a' ha';exact .chk (i64_small (by omega)) (.some ⟨rfl, ha'⟩)
  ·rintro ⟨a, i⟩ hx ⟨v, h1, h2⟩;simp only at hx h1 h2;unfold P_r4_Kept_L3;refine .ifn (by omega) (.some ?_)
   show a = _;rw [← show (l.zip (chains l)).take l.length = l.zip (chains l) from List.take_of_length_le (by rw [hzl]; exact Nat.le_refl _), h1]
  ·rintro a0 ha0
   have hrest : ∀ (i : Nat) (r : S_copy_run), l[i]? = some r → ∀ nx, (nextsFrom 0 l)[i]? = some nx → (nx = -1 ∧ restAt l i r = [(i : Int)]) ∨ ∃ (j : Nat) (q : S_copy_run), nx = j ∧ i < j ∧ l[j]? = some q ∧ restAt l i r = (i : Int) :: restAt l j q := fun i r hri nx hnx => by
    rw [nexts_at hri] at hnx;cases hnx;obtain ⟨_, g2, g3⟩ := first_best r.last (behind l i) ((i : Int) + 1) 0 (-1);rw [Int.zero_add] at g2 g3
    have hge := follow_ge r.last (behind l i) 0
    by_cases hF : follow r.last (behind l i) 0 = 0
    ·refine .inl ⟨g2 hF, ?_⟩;unfold restAt;rw [hF, keptFrom_zero _ _ _ behind_pos]
    ·obtain ⟨j, p, p1, p2, p3, p4⟩ := g3 (by omega)
     have hlt := (List.getElem?_eq_some_iff.1 p1).1;rw [behind_len] at hlt;obtain ⟨q, hq⟩ : ∃ q, l[i + 1 + j]? = some q := ⟨_, List.getElem?_eq_getElem (by omega)⟩;obtain ⟨c, c1, c2⟩ := behind_get hq;rw [p1] at c2;cases c2
     have hca := chains_at hq;rw [c1] at hca
     have hca := Option.some.inj hca;refine .inr ⟨i + 1 + j, q, by rw [p2]; omega, by omega, hq, ?_⟩
     show (i : Int) :: _ = _;rw [p4, behind_drop];unfold restAt;simp only at p3;rw [← p3, hca, show (i : Int) + 1 + (j : Int) = ((i + 1 + j : Nat) : Int) by omega, Int.add_sub_cancel]
   have hstart : (a0 = -1 ∧ keptOf l = []) ∨ ∃ (j : Nat) (q : S_copy_run), a0 = j ∧ l[j]? = some q ∧ keptOf l = restAt l j q := by
    obtain ⟨_, g2, g3⟩ := hfb
    have := (top_bounds (M := 120) (by omega) (chains l) fun m hm => by have := hcb m hm; omega).1
    by_cases hF : top (chains l) = 0
    ·refine .inl ⟨by rw [ha0]; exact g2 hF, ?_⟩;unfold keptOf;rw [hF];exact keptFrom_zero _ _ _ fun p hp => (hcb p.2 (List.of_mem_zip hp).2).1
    ·obtain ⟨j, p, p1, p2, p3, p4⟩ := g3 (by omega)
     have p1' := p1;obtain ⟨p1a, p1b⟩ := (List.getElem?_zip_eq_some (z := (p.1, p.2))).1 p1
     have hca := chains_at p1a;rw [p1b] at hca
     have hca := Option.some.inj hca;refine .inr ⟨j, p.1, by rw [ha0, p2]; omega, p1a, ?_⟩;unfold keptOf restAt;rw [p4, ← p3, hca, Int.zero_add, Int.add_sub_cancel, zip_drop, ← chains_drop];rfl
   refine Ok.andx (P := fun o : List Int => o = keptOf l) (Ok.iter (fun s : Int × List Int => (s.1 = -1 ∧ s.2 = keptOf l) ∨ ∃ (j : Nat) (q : S_copy_run), s.1 = j ∧ l[j]? = some q ∧ keptOf l = s.2 ++ restAt l j q ∧ s.2.length ≤ j) (fun s => if s.1 < 0 then 0 else l.length - s.1.toNat) ?_ ?_) fun _ h => ⟨_, rfl, h⟩
   ·rcases hstart with ⟨h1, h2⟩ | ⟨j, q, h1, h2, h3⟩
    ·exact .inl ⟨h1, h2.symm⟩
    ·exact .inr ⟨j, q, h1, h2, h3, Nat.zero_le _⟩
   ·rintro ⟨a, out⟩ (⟨h1, h2⟩ | ⟨j, q, h1, h2, h3, h4⟩)
    ·simp only at h1 h2;unfold P_r4_Kept_L4;exact .ifn (by omega) (.some h2)
    ·simp only at h1 h3 h4;subst h1
     have hjl := (List.getElem?_eq_some_iff.1 h2).1;unfold P_r4_Kept_L4;refine .ifp (by omega) (.chk (by simp; omega) (.el (by rw [nextsFrom_len]; omega) fun nx hnx => .some ?_))
     have hnx := get_of hnx rfl
     rcases hrest j q h2 nx hnx with ⟨rfl, e⟩ | ⟨j', q', rfl, hlt, hq', e⟩
     ·refine ⟨.inl ⟨rfl, ?_⟩, ?_⟩
      ·rw [h3, e]
      ·simp only;rw [if_pos (by omega), if_neg (by omega)];omega
     ·have hjl' := (List.getElem?_eq_some_iff.1 hq').1;refine ⟨.inr ⟨j', q', rfl, hq', by rw [h3, e]; simp, by simp; omega⟩, ?_⟩;simp only;rw [if_neg (by omega), if_neg (by omega)];omega
end Go.Am
end
section
namespace Go.Am
set_option linter.unusedVariables false
theorem keptFrom_ge : ∀ (ps : List (S_copy_run × Int)) (k b last : Int), ∀ i ∈ keptFrom ps k b last, k ≤ i := by
 intro ps
 induction ps with
 | nil => intro k b last i h; cases h
 | cons p ps ih =>
  intro k b last i h;rw [keptFrom] at h;split at h
  ·rcases List.mem_cons.1 h with rfl | h
   ·exact Int.le_refl _
   ·have := ih _ _ _ i h; omega
  ·have := ih _ _ _ i h; omega
theorem keptFrom_len : ∀ (ps : List (S_copy_run × Int)) (k b last : Int), (keptFrom ps k b last).length ≤ ps.length := by
 intro ps
 induction ps with
 | nil => intro k b last; exact Nat.le_refl _
 | cons p ps ih =>
  intro k b last;rw [keptFrom];split
  ·have := ih (k + 1) (b - 1) p.1.last; simp; omega
  ·have := ih (k + 1) b last; simp; omega
theorem Of_ok {s : Int} {g : List Gat} {t : List Int} (h : GoodBook s g) (ht : t.length ≤ 120) (hin : TruthIn (lvs s g).length t) :
    P_r4_Of s g t = some (t, lostOf (lvs s g).length t, piecesOf (matesOf s g) (lostOf (lvs s g).length t), strangeOf t, twiceOf t, movedOf (runsOf (gathOf (lvs s g)) t), allOf (lvs s g).length (matesOf s g) (gathOf (lvs s g)) t) := by
  refine Ok.get ?_
  unfold P_r4_Of
  have hnl := h.nl
  have hl := lostOf_len (lvs s g).length t
  have hp := piecesOf_le (matesOf s g) (lostOf (lvs s g).length t)
  have h1 : (strangeOf t).length ≤ 120 := Nat.le_trans (idxTo_len _ _ _) ht
  have h2 : (twiceOf t).length ≤ 120 := Nat.le_trans (idxTo_len _ _ _) ht
  have hr := runsTo_ok (g := gathOf (lvs s g)) hin t.length
  have hm := movedOf_len (runsOf (gathOf (lvs s g)) t)
  have hrl : (runsOf (gathOf (lvs s g)) t).length ≤ t.length := hr.2
  refine .chk (by simp; omega) (.andx' (Gone_ok h (by omega)) (.andx' (Pieces_ok h (fun x hx => by have := mem_lostOf.1 hx; omega) (by omega)) (.andx' (Plain_ok (by omega)) ?_)))
  refine Ok.andx (P := fun x : List Int × List Int => x = (strangeOf t, twiceOf t)) (Ok.count (fun s => s.1) t.length (fun k s => s.2.1 = idxTo isStrange t k ∧ s.2.2 = idxTo (isTwice t) t k) rfl ⟨rfl, rfl⟩ ?_ ?_) ?_
  · rintro k ⟨i, st, tw⟩ hk hx ⟨q1, q2⟩
    simp only at hx q1 q2
    subst hx q1 q2
    have hs1 := idxTo_len isStrange t k
    have hs2 := idxTo_len (isTwice t) t k
    have hpl : (plainOf t).length ≤ t.length := idxTo_len _ _ _
    unfold P_r4_Of_L1
    refine .ifp (by omega) (Ok.andx (P := fun x : List Int × List Int => x.1 = idxTo isStrange t (k + 1) ∧ x.2 = idxTo (isTwice t) t (k + 1)) ?_ ?_)
    · refine .el (by omega) fun n hn => ?_
      have hn := get_of hn rfl
      rw [idxTo_succ hn, idxTo_succ hn]
      refine .ite (fun h0 => ?_) (fun h0 => ?_)
      · have e2 : isStrange k n = true := decide_eq_true h0
        have e3 : isTwice t k n = false := decide_eq_false (by omega)
        rw [e2, e3]
        exact .chk (by simp; omega) (.some ⟨rfl, rfl⟩)
      · have e2 : isStrange k n = false := decide_eq_false h0
        rw [e2]
        refine .andx' (has_ok (by omega)) (.ite (fun hc => ?_) (fun hc => ?_))
        · have := ((mem_idxTo hn t.length).1 (of_decide_eq_true hc)).2
          have e3 : isTwice t k n = false := decide_eq_false (fun h => (of_decide_eq_true this).2 h.2)
          rw [e3]
          exact .some ⟨rfl, rfl⟩
        · have hnp : ¬ isPlain t k n = true := fun hp => hc (decide_eq_true ((mem_idxTo hn t.length).2 ⟨hk, hp⟩))
          have e3 : isTwice t k n = true := decide_eq_true ⟨by omega, by
            by_cases hmem : n ∈ t.take k
            · exact hmem
            · exact absurd (decide_eq_true ⟨by omega, hmem⟩) hnp⟩
          rw [e3]
          exact .chk (by simp; omega) (.some ⟨rfl, rfl⟩)
    · rintro ⟨a, b⟩ ⟨q1, q2⟩
      exact .chk (i64_small (by omega)) (.some ⟨rfl, q1, q2⟩)
  · rintro ⟨i, st, tw⟩ hx ⟨q1, q2⟩
    simp only at hx q1 q2
    unfold P_r4_Of_L1
    refine .ifn (by omega) (.some ?_)
    show (st, tw) = _
    rw [q1, q2]; rfl
  · rintro x rfl
    obtain ⟨rs, e1, e2⟩ := Runs_ok h ht hin
    refine .andx' e1 (.andx' (Kept_ok e2.symm (by omega) hr.1) ?_)
    generalize hL : runsOf (gathOf (lvs s g)) t = l at *
    have hll : l.length = rs.length := by rw [← e2, List.length_map]
    have hzl : (l.zip (chains l)).length = l.length := by rw [List.length_zip, chains_len, Nat.min_self]
    have hkl : (keptOf l).length ≤ 120 := by have := keptFrom_len (l.zip (chains l)) 0 (top (chains l)) (-1); unfold keptOf; omega
    refine Ok.andx (P := fun m : List Int => m = movedOf l) (Ok.count (fun s => s.1) rs.length (fun k (s : Int × List Int) => (∃ b last, movedOf l = s.2 ++ movedFrom ((l.zip (chains l)).drop k) b last ∧ ∀ i : Int, (k : Int) ≤ i → (i ∈ keptOf l ↔ i ∈ keptFrom ((l.zip (chains l)).drop k) k b last)) ∧ s.2.length ≤ k) rfl ⟨⟨top (chains l), -1, rfl, fun i _ => Iff.rfl⟩, Nat.le_refl _⟩ ?_ ?_) ?_
    · rintro k ⟨i, out⟩ hk hx ⟨⟨b, last, q1, q2⟩, q3⟩
      simp only at hx q1 q3
      subst hx
      obtain ⟨r, hrk⟩ : ∃ r, rs[k]? = some r := ⟨_, List.getElem?_eq_getElem hk⟩
      have hlk : l[k]? = some (toC r) := by rw [← e2, List.getElem?_map, hrk]; rfl
      obtain ⟨c, hc⟩ : ∃ c, (chains l)[k]? = some c := ⟨_, List.getElem?_eq_getElem (by rw [chains_len]; omega)⟩
      have hz : (l.zip (chains l))[k]? = some (toC r, c) := by rw [List.getElem?_zip_eq_some]; exact ⟨hlk, hc⟩
      rw [drop_cons hz, movedFrom] at q1
      rw [drop_cons hz] at q2
      simp only [keptFrom] at q1 q2
      unfold P_r4_Of_L2
      have hk2 := q2 k (Int.le_refl _)
      refine .ifp (by omega) (Ok.andx (P := fun o : List Int => (∃ b last, movedOf l = o ++ movedFrom ((l.zip (chains l)).drop (k + 1)) b last ∧ ∀ i : Int, ((k + 1 : Nat) : Int) ≤ i → (i ∈ keptOf l ↔ i ∈ keptFrom ((l.zip (chains l)).drop (k + 1)) ((k + 1 : Nat) : Int) b last)) ∧ o.length ≤ k + 1) ?_ ?_)
      · refine .andx' (has_ok (by omega)) ?_
        by_cases hcond : c = b ∧ (toC r).first > last
        · rw [if_pos hcond] at q1 hk2
          have hmem : (k : Int) ∈ keptOf l := hk2.2 List.mem_cons_self
          refine .ifp (decide_eq_true hmem) (.some ⟨⟨b - 1, (toC r).last, q1, fun i hi => ?_⟩, by omega⟩)
          rw [q2 i (by omega), if_pos hcond, List.mem_cons]
          exact ⟨fun h => h.elim (fun e => by omega) id, .inr⟩
        · rw [if_neg hcond] at q1 hk2
          have hmem : (k : Int) ∉ keptOf l := fun hm => by have := keptFrom_ge _ _ _ _ _ (hk2.1 hm); omega
          refine .ifn (by simp [hmem]) (.el (by omega) fun a ha => ?_)
          have ha := get_of ha rfl
          rw [hrk] at ha
          cases ha
          refine .chk (by simp; omega) (.some ⟨⟨b, last, by rw [q1, List.append_assoc]; rfl, fun i hi => ?_⟩, by simp; omega⟩)
          rw [q2 i (by omega), if_neg hcond]
          rfl
      · rintro o ⟨ho1, ho2⟩
        exact .chk (i64_small (by omega)) (.some ⟨rfl, ho1, ho2⟩)
    · rintro ⟨i, out⟩ hx ⟨⟨b, last, q1, q2⟩, q3⟩
      simp only at hx q1
      unfold P_r4_Of_L2
      refine .ifn (by omega) (.some ?_)
      show out = _
      rw [q1, List.drop_eq_nil_of_le (by omega), movedFrom, List.append_nil]
    · rintro m rfl
      refine .chk (i64_small (by omega)) (.chk (i64_small (by omega)) (.chk (i64_small (by omega)) (.some ?_)))
      rw [← hL]
      rfl
theorem truths_in {s : Int} {g : List Gat} {its : List Item} (h : GoodCase s g its) : ∀ t ∈ truthsOf its, t.length = its.length ∧ ∀ x ∈ t, x = -1 ∨ 0 ≤ x ∧ x < (lvs s g).length := by
  suffices k : ∀ (l : List Item) (p t : List Int), (∀ x ∈ l, ∀ n ∈ x.could.l, 0 ≤ n ∧ n ≤ ((lvs s g).length : Int) - 1) → (∀ x ∈ p, x = -1 ∨ 0 ≤ x ∧ x < (lvs s g).length) → t ∈ comps p l → t.length = p.length + l.length ∧ ∀ x ∈ t, x = -1 ∨ 0 ≤ x ∧ x < (lvs s g).length by
    intro t ht
    have := k its [] t h.rng (by simp) ht
    exact ⟨by simpa using this.1, this.2⟩
  intro l
  induction l with
  | nil =>
    intro p t _ hp ht
    rw [comps, List.mem_singleton] at ht
    subst ht
    exact ⟨rfl, hp⟩
  | cons x l ih =>
    intro p t hl hp ht
    rw [comps, List.mem_flatMap] at ht
    obtain ⟨c, hc, ht⟩ := ht
    have hcr : c = -1 ∨ 0 ≤ c ∧ c < (lvs s g).length := by
      unfold chs at hc
      split at hc
      · rw [List.mem_singleton] at hc; exact .inl hc
      · have := hl x List.mem_cons_self c hc; exact .inr ⟨this.1, by omega⟩
    have := ih (p ++ [c]) t (fun y hy => hl y (List.mem_cons_of_mem _ hy)) (fun y hy => by
      rcases List.mem_append.1 hy with hy | hy
      · exact hp y hy
      · rw [List.mem_singleton] at hy; subst hy; exact hcr) ht
    refine ⟨?_, this.2⟩
    rw [this.1]
    simp
    omega
noncomputable def manyOf (s : Int) (g : List Gat) (t : List Int) : Int := allOf (lvs s g).length (matesOf s g) (gathOf (lvs s g)) t
noncomputable def wideOf (s : Int) (g : List Gat) (its : List Item) : Int × Int :=
 match truthsOf its with
 | [] => (0, 0)
 | t :: l => l.foldl (fun x t => (min x.1 (manyOf s g t), max x.2 (manyOf s g t))) (manyOf s g t, manyOf s g t)
end Go.Am
end
section
namespace Go.Am
set_option linter.unusedVariables false
theorem openRes_err {s : Int} {g : List Gat} {its : List Item} (h : ¬ (caseErr s g its).2.2 = 0) : openRes s g its = .inl (caseErr s g its) := by unfold openRes; rw [if_neg h]
theorem openRes_ok {s : Int} {g : List Gat} {its : List Item} (h : (caseErr s g its).2.2 = 0) : openRes s g its = .inr (s, GSo true encL (lvs s g), matesOf s g, 0, 0, 0) := by unfold openRes; rw [if_pos h]
end Go.Am
end
section
namespace Go.Am
set_option linter.unusedVariables false
theorem foldx_fold {σ β A : Type} {body : σ → β → Option (Stp σ A)} {f : σ → β → σ} : ∀ (l : List β) (s : σ), (∀ s, ∀ x ∈ l, body s x = some (.ag (f s x))) → foldx body l s = some (.nx (l.foldl f s)) := by
 intro l
 induction l with
 | nil => intro s _; rfl
 | cons a l ih =>
  intro s h;unfold foldx;rw [h s a List.mem_cons_self];exact ih _ fun s x hx => h s x (List.mem_cons_of_mem _ hx)
theorem count_le (g : Int → Int) (t : List Int) : ∀ k, (idxTo isStrange t k).length + (idxTo (isTwice t) t k).length + (runsTo g t k).length ≤ k := by
 intro k
 induction k with
 | zero => simp [idxTo, runsTo]
 | succ k ih =>
  cases h : t[k]? with
  | none =>
   rw [idxTo, idxTo, runsTo, h];simp only [List.append_nil];omega
  | some n =>
   rw [idxTo_succ h, idxTo_succ h, runsTo_succ h]
   by_cases h0 : n < 0
   ·have e1 : isPlain t k n = false := decide_eq_false (by omega)
    have e2 : isStrange k n = true := decide_eq_true h0
    have e3 : isTwice t k n = false := decide_eq_false (by omega);rw [e1, e2, e3];simp;omega
   ·have e2 : isStrange k n = false := decide_eq_false h0
    by_cases hm : n ∈ t.take k
    ·have e1 : isPlain t k n = false := decide_eq_false (fun h => h.2 hm)
     have e3 : isTwice t k n = true := decide_eq_true ⟨by omega, hm⟩;rw [e1, e2, e3];simp;omega
    ·have e1 : isPlain t k n = true := decide_eq_true ⟨by omega, hm⟩
     have e3 : isTwice t k n = false := decide_eq_false (fun h => hm h.2)
     have := rnStep_len (g := g) (l := runsTo g t k) (i := k) (n := n);rw [e1, e2, e3];simp;omega
theorem many_bounds (s : Int) (g : List Gat) (t : List Int) : 0 ≤ manyOf s g t ∧ manyOf s g t ≤ (lvs s g).length + t.length := by
 unfold manyOf allOf
 have h1 := piecesOf_le (matesOf s g) (lostOf (lvs s g).length t)
 have h2 := lostOf_len (lvs s g).length t
 have h3 := count_le (gathOf (lvs s g)) t t.length
 have h4 := movedOf_len (runsOf (gathOf (lvs s g)) t);unfold strangeOf twiceOf
 have h5 : (runsOf (gathOf (lvs s g)) t).length = (runsTo (gathOf (lvs s g)) t t.length).length := rfl;omega
theorem cfaults_ok {s : Int} {g : List Gat} {its : List Item} (h : GoodCase s g its) {its' : List Item} {s' : Int} {t : List Int} (ht : t ∈ truthsOf its) :
  P_c_faults s' g its' (lvs s g) (matesOf s g) t = some ([], lostOf (lvs s g).length t, piecesOf (matesOf s g) (lostOf (lvs s g).length t), strangeOf t, twiceOf t, movedOf (runsOf (gathOf (lvs s g)) t), manyOf s g t) := by
 have ht' := truths_in h t ht
 have := h.il;exact faults_ok h.nl (mates_len s g) (by omega) (fun x hx => by rcases ht'.2 x hx with h | h <;> omega)
theorem rOf_ok {s : Int} {g : List Gat} {its : List Item} (h : GoodCase s g its) {t : List Int} (ht : t ∈ truthsOf its) :
  P_r4_Of s g t = some (t, lostOf (lvs s g).length t, piecesOf (matesOf s g) (lostOf (lvs s g).length t), strangeOf t, twiceOf t, movedOf (runsOf (gathOf (lvs s g)) t), manyOf s g t) := by
 have ht' := truths_in h t ht
 have := h.il;exact Of_ok h.book (by omega) (fun x hx => by rcases ht'.2 x hx with h | h <;> omega)
theorem truths_pos {its : List Item} (hf : ∀ x ∈ its, x.could.l.length ≤ 4) : ∃ t l, truthsOf its = t :: l := by
 have h1 := (wid_le its hf).1
 have h2 := comps_len its [];cases h : truthsOf its with
 | nil => unfold truthsOf at h; rw [h] at h2; simp at h2; omega
 | cons t l => exact ⟨t, l, rfl⟩
theorem wide_ok {s : Int} {g : List Gat} {its : List Item} (h : GoodCase s g its) {s' : Int} : P_c_wide s' g its (lvs s g) (matesOf s g) = some (wideOf s g its) := by
 refine Ok.get ?_
 have hil := h.il
 have hnl := h.nl;obtain ⟨t, l, htl⟩ := truths_pos h.few;unfold P_c_wide;refine .chk (i64_small (by omega)) (.chk (i64_small (by omega)) (Ok.andx (P := fun x => x = wideOf s g its) (.chk ⟨hil, h.few⟩ ?_) ?_))
 ·have hb : ∀ (x : Int × Int), ∀ t ∈ truthsOf its, P_c_wide_L1 s' g its (lvs s g) (matesOf s g) x t = some (.ag (min x.1 (manyOf s g t), max x.2 (manyOf s g t))) := fun x t ht => by
   unfold P_c_wide_L1;obtain ⟨a, b⟩ := x;simp only;rw [cfaults_ok h ht];rfl
  rw [foldx_fold (f := fun (x : Int × Int) t => (min x.1 (manyOf s g t), max x.2 (manyOf s g t))) _ _ hb];refine .some ?_
  show (_, _) = _;unfold wideOf;rw [htl, List.foldl_cons]
  have h1 := many_bounds s g t
  have h2 := (truths_in h t (by rw [htl]; exact List.mem_cons_self)).1
  have e1 : min (((lvs s g).length : Int) + 2 * (its.length : Int)) (manyOf s g t) = manyOf s g t := by omega
  have e2 : max (0 : Int) (manyOf s g t) = manyOf s g t := by omega
  simp only [e1, e2]
 ·rintro ⟨a, b⟩ hab;exact .some hab
theorem Wide_ok {s : Int} {g : List Gat} {its : List Item} (h : GoodCase s g its) : P_r4_Wide s g its = some (wideOf s g its) := by
 refine Ok.get ?_;obtain ⟨z, hz⟩ := All_ok h;obtain ⟨t, l, htl⟩ := truths_pos h.few;unfold P_r4_Wide;refine .andx' hz ?_
 have hw : (truthsOf its).length ≤ 64 := by have := h.wid; rw [← comps_len its []] at this; exact this
 have hgl : (GSo z (encSl encI) (List.map (GSo true encI) (truthsOf its))).l = List.map (GSo true encI) (truthsOf its) := rfl;dsimp only;rw [hgl];refine .el (by rw [List.length_map, htl]; simp) fun a ha => ?_
 have ha : (List.map (GSo true encI) (truthsOf its))[0]? = some a := get_of ha rfl;rw [htl] at ha;cases ha;refine .andx' (rOf_ok h (by rw [htl]; exact List.mem_cons_self)) ?_;refine Ok.andx (P := fun x => x = wideOf s g its) (Ok.count (fun s => s.1 - 1) l.length (fun k (x : Int × Int × Int) => x.2 = (l.take k).foldl (fun x t => (min x.1 (manyOf s g t), max x.2 (manyOf s g t))) (manyOf s g t, manyOf s g t)) rfl rfl ?_ ?_) ?_
 ·rintro k ⟨i, lo, hi⟩ hk hx hq;simp only at hx hq
  have hik : i = ((k + 1 : Nat) : Int) := by omega
  subst hik
  have hlen : (truthsOf its).length = l.length + 1 := by rw [htl]; rfl
  unfold P_r4_Wide_L1;rw [hgl];refine .ifp (by rw [List.length_map]; omega) (.el (by rw [List.length_map]; omega) fun a ha => ?_)
  have ha := get_of ha rfl;rw [List.getElem?_map, htl, List.getElem?_cons_succ] at ha;obtain ⟨u, hu⟩ : ∃ u, l[k]? = some u := ⟨_, List.getElem?_eq_getElem hk⟩;rw [hu] at ha;cases ha;refine .andx' (rOf_ok h (by rw [htl]; exact List.mem_cons_of_mem _ (List.mem_of_getElem? hu))) ?_;refine .chk (i64_small (by omega)) (.some ⟨by simp only; omega, ?_⟩)
  show (min lo _, max hi _) = _;rw [take_snoc hu, List.foldl_append, ← hq];rfl
 ·rintro ⟨i, lo, hi⟩ hx hq;simp only at hx hq
  have hlen : (truthsOf its).length = l.length + 1 := by rw [htl]; rfl
  unfold P_r4_Wide_L1;rw [hgl];refine .ifn (by rw [List.length_map]; omega) (.some ?_)
  show (lo, hi) = _;rw [hq, List.take_length];unfold wideOf;rw [htl]
 ·rintro ⟨a, b⟩ hab;exact .some hab
noncomputable def rangeSaid (s : Int) (g : List Gat) (its : List Item) : Int × Int × Int := if (caseErr s g its).2.2 = 0 then ((wideOf s g its).1, (wideOf s g its).2, 0) else (0, 0, (caseErr s g its).2.2)
theorem c_Range_ok {s : Int} {g : List Gat} {its : List Item} : P_c_Range s g its = some (rangeSaid s g its) := by
 unfold P_c_Range rangeSaid;rw [open_ok]
 by_cases e : (caseErr s g its).2.2 = 0
 ·rw [openRes_ok e, if_pos e];simp only [andx]
  have hg : (GSo true encL (lvs s g)).l = lvs s g := rfl;rw [chk_pos trivial, hg, wide_ok (case_good e)]
 ·rw [openRes_err e, if_neg e];simp only [andx];rw [chk_pos e]
theorem r4_Range_ok {s : Int} {g : List Gat} {its : List Item} : P_r4_Range s g its = some (rangeSaid s g its) := by
 unfold P_r4_Range rangeSaid;rw [r4_Check_ok]
 by_cases e : (caseErr s g its).2.2 = 0
 ·simp only [andx];rw [if_neg (by simp [e]), Wide_ok (case_good e), if_pos e]
 ·simp only [andx];rw [if_pos e, if_neg e]
end Go.Am
end
section
namespace Go.Am
set_option linter.unusedVariables false
theorem truths_le {s : Int} {g : List Gat} {its : List Item} (h : GoodCase s g its) : (truthsOf its).length ≤ 64 := by
 have := h.wid;rw [← comps_len its []] at this;exact this
end Go.Am
end
section
namespace Go.Am
set_option linter.unusedVariables false
abbrev okCase (s : Int) (g : List Gat) (its : List Item) : Prop := (caseErr s g its).2.2 = 0
theorem ints_ok {a b : List Int} (h : a.length ≤ 1000000) : P_r1_Ints a b = some (decide (a = b)) := by unfold P_r1_Ints; rw [chk_pos (by omega)]
end Go.Am
end
section
namespace Go.Am
set_option linter.unusedVariables false
theorem doubts_none : ∀ (l : List Item) (d i : Nat), d + l.countP (fun x => decide (1 < x.could.l.length)) ≤ 3 → doubtsErr d i l = none := by
 intro l
 induction l with
 | nil => intro d i _; rfl
 | cons x l ih =>
  intro d i h;rw [List.countP_cons] at h;unfold doubtsErr
  by_cases hx : 1 < x.could.l.length
  ·simp only [hx, if_true, decide_true] at h ⊢;rw [if_neg (by omega)];exact ih _ _ (by omega)
  ·simp only [hx, if_false, decide_false] at h ⊢;rw [if_neg (by omega)];exact ih _ _ (by simpa using h)
theorem items_none {n : Int} : ∀ (l : List Item) (i : Nat), (∀ x ∈ l, itemErr x.could.l n = 0) → itemsErr n i l = none := by
 intro l
 induction l with
 | nil => intro i _; rfl
 | cons a l ih =>
  intro i h;unfold itemsErr;rw [if_pos (h a List.mem_cons_self)];exact ih _ fun x hx => h x (List.mem_cons_of_mem _ hx)
theorem okCase_iff {s : Int} {g : List Gat} {its : List Item} : okCase s g its ↔ (bookErr (bk s g)).2.2 = 0 ∧ (lvs s g).length ≤ 120 ∧ its.length ≤ 120 ∧ (∀ x ∈ its, itemErr x.could.l ((lvs s g).length : Int) = 0) ∧ its.countP (fun x => decide (1 < x.could.l.length)) ≤ 3 := by
 constructor
 ·intro h
  have hg := case_good h;refine ⟨hg.b0, hg.nl, hg.il, ?_, hg.dbt⟩;unfold okCase caseErr at h
  have h1 : ¬ 120 < (leavesOf (bk s g)).length := by have := hg.nl; unfold lvs at this; omega
  rw [if_pos hg.b0, if_neg h1, if_neg (by have := hg.il; omega)] at h;split at h
  ·rename_i i e he
   exact absurd h (itemsErr_pos _ _ _ _ he)
  ·rename_i he
   exact items_ok _ _ he
 ·rintro ⟨h1, h2, h3, h4, h5⟩;unfold okCase caseErr;rw [if_pos h1, if_neg (by unfold lvs at h2; omega), if_neg (by omega)]
  have e1 : itemsErr ((leavesOf (bk s g)).length : Int) 0 its = none := items_none its 0 h4;rw [e1];simp only;rw [doubts_none its 0 0 (by omega)]
end Go.Am
end
section
namespace Go.Am
set_option linter.unusedVariables false
noncomputable def pickT (s : Int) (g : List Gat) (b t : List Int) : List Int := if manyOf s g t < manyOf s g b then t else b
noncomputable def bestOf (s : Int) (g : List Gat) (its : List Item) : List Int := match truthsOf its with | [] => [] | t :: l => l.foldl (pickT s g) t
theorem pick_fold (s : Int) (g : List Gat) : ∀ (l : List (List Int)) (b : List Int), (l.foldl (pickT s g) b = b ∨ l.foldl (pickT s g) b ∈ l) ∧ manyOf s g (l.foldl (pickT s g) b) ≤ manyOf s g b ∧ ∀ t ∈ l, manyOf s g (l.foldl (pickT s g) b) ≤ manyOf s g t := by
 intro l
 induction l with
 | nil => intro b; exact ⟨.inl rfl, Int.le_refl _, fun t h => by cases h⟩
 | cons u l ih =>
  intro b;rw [List.foldl_cons];obtain ⟨h1, h2, h3⟩ := ih (pickT s g b u)
  have hp : (pickT s g b u = b ∨ pickT s g b u = u) ∧ manyOf s g (pickT s g b u) ≤ manyOf s g b ∧ manyOf s g (pickT s g b u) ≤ manyOf s g u := by
   unfold pickT;split
   ·exact ⟨.inr rfl, by omega, by omega⟩
   ·exact ⟨.inl rfl, by omega, by omega⟩
  refine ⟨?_, by omega, fun t ht => ?_⟩
  ·rcases h1 with h1 | h1
   ·rcases hp.1 with e | e
    ·exact .inl (h1.trans e)
    ·rw [e] at h1; exact .inr (by rw [e, h1]; exact List.mem_cons_self)
   ·exact .inr (List.mem_cons_of_mem _ h1)
  ·rcases List.mem_cons.1 ht with rfl | ht
   ·omega
   ·exact h3 t ht
theorem best_in {s : Int} {g : List Gat} {its : List Item} (hf : ∀ x ∈ its, x.could.l.length ≤ 4) : bestOf s g its ∈ truthsOf its ∧ ∀ t ∈ truthsOf its, manyOf s g (bestOf s g its) ≤ manyOf s g t := by
 obtain ⟨t, l, h⟩ := truths_pos hf
 have e : bestOf s g its = l.foldl (pickT s g) t := by unfold bestOf; rw [h]
 obtain ⟨h1, h2, h3⟩ := pick_fold s g l t;rw [e, h];refine ⟨?_, fun u hu => ?_⟩
 ·rcases h1 with h1 | h1
  ·rw [h1]; exact List.mem_cons_self
  ·exact List.mem_cons_of_mem _ h1
 ·rcases List.mem_cons.1 hu with rfl | hu
  ·exact h2
  ·exact h3 u hu
noncomputable def faultsSaid (s : Int) (g : List Gat) (its : List Item) : List Int × Bool × List Int × Bool × Int × List Int × Bool × List Int × Bool × List Int × Bool × Int × Int :=
 if okCase s g its then (bestOf s g its, false, lostOf (lvs s g).length (bestOf s g its), true, piecesOf (matesOf s g) (lostOf (lvs s g).length (bestOf s g its)), strangeOf (bestOf s g its), true, twiceOf (bestOf s g its), true, movedOf (runsOf (gathOf (lvs s g)) (bestOf s g its)), true, manyOf s g (bestOf s g its), 0)
 else ([], true, [], true, 0, [], true, [], true, [], true, 0, (caseErr s g its).2.2)
noncomputable def cst (s : Int) (g : List Gat) (t : List Int) : (List Int) × Bool × (List Int) × (List Int) × (List Int) × (List Int) × Bool × Int × Int :=
 (t, false, lostOf (lvs s g).length t, strangeOf t, twiceOf t, movedOf (runsOf (gathOf (lvs s g)) t), false, piecesOf (matesOf s g) (lostOf (lvs s g).length t), manyOf s g t)
theorem cstep {s : Int} {g : List Gat} {its : List Item} (h : GoodCase s g its) {b t : List Int} (ht : t ∈ truthsOf its) :
  P_c_Faults_L1 g its s (GSo true encL (lvs s g)) (matesOf s g) (cst s g b) t = some (.ag (cst s g (pickT s g b t))) := by
 have hl := (truths_in h t ht).1
 have hil := h.il
 have hgo : (GSo true encL (lvs s g)).l = lvs s g := rfl;unfold P_c_Faults_L1 cst;simp only [hgo];rw [cfaults_ok h ht];simp only [andx];rw [if_neg Bool.false_ne_true];simp only;unfold pickT
 by_cases hc : manyOf s g t < manyOf s g b
 ·rw [if_pos hc]
  have : ¬ (decide (manyOf s g t ≥ manyOf s g b) = true) := by simp; exact hc
  rw [if_neg this];simp only [seqx];rw [chk_pos (by omega), chk_pos (by simp)]
 ·rw [if_neg hc]
  have : decide (manyOf s g t ≥ manyOf s g b) = true := decide_eq_true (by omega);rw [if_pos this];rfl
theorem cfold {s : Int} {g : List Gat} {its : List Item} (h : GoodCase s g its) : ∀ (l : List (List Int)) (b : List Int), (∀ t ∈ l, t ∈ truthsOf its) →
  foldx (P_c_Faults_L1 g its s (GSo true encL (lvs s g)) (matesOf s g)) l (cst s g b) = some (.nx (cst s g (l.foldl (pickT s g) b))) := by
 intro l
 induction l with
 | nil => intro b _; rfl
 | cons u l ih =>
  intro b hm;unfold foldx;rw [cstep h (hm u List.mem_cons_self)];exact ih _ fun t ht => hm t (List.mem_cons_of_mem _ ht)
theorem cfirst {s : Int} {g : List Gat} {its : List Item} (h : GoodCase s g its) {t : List Int} (ht : t ∈ truthsOf its) :
  P_c_Faults_L1 g its s (GSo true encL (lvs s g)) (matesOf s g) ([], true, [], [], [], [], true, 0, 0) t = some (.ag (cst s g t)) := by
 have hl := (truths_in h t ht).1
 have hil := h.il
 have hgo : (GSo true encL (lvs s g)).l = lvs s g := rfl;unfold P_c_Faults_L1 cst;simp only [hgo];rw [cfaults_ok h ht];simp only [andx, if_true, Bool.false_eq_true, if_false, seqx];rw [chk_pos (by omega), chk_pos (by simp)]
theorem c_Faults_ok {s : Int} {g : List Gat} {its : List Item} : P_c_Faults s g its = some (faultsSaid s g its) := by
 unfold P_c_Faults faultsSaid;rw [open_ok]
 by_cases e : okCase s g its
 ·have h := case_good e;rw [openRes_ok e, if_pos e];simp only [andx];rw [chk_pos trivial, chk_pos ⟨h.il, h.few⟩];obtain ⟨t, l, htl⟩ := truths_pos h.few
  have hb : bestOf s g its = l.foldl (pickT s g) t := by unfold bestOf; rw [htl]
  have hfx : foldx (P_c_Faults_L1 g its s (GSo true encL (lvs s g)) (matesOf s g)) (truthsOf its) ([], true, [], [], [], [], true, 0, 0) = some (.nx (cst s g (bestOf s g its))) := by
   rw [htl, hb];unfold foldx;rw [cfirst h (by rw [htl]; exact List.mem_cons_self)];exact cfold h l t fun u hu => by rw [htl]; exact List.mem_cons_of_mem _ hu
  rw [hfx];simp only [seqx, cst]
 ·rw [openRes_err e, if_neg e];simp only [andx];rw [chk_pos e]
theorem r4_Faults_ok {s : Int} {g : List Gat} {its : List Item} : P_r4_Faults s g its = some (faultsSaid s g its) := by
 refine Ok.get ?_;unfold P_r4_Faults faultsSaid;refine .andx' r4_Check_ok ?_
 by_cases e : okCase s g its
 ·have h := case_good e;rw [if_pos e];obtain ⟨z, hz⟩ := All_ok h;obtain ⟨t, l, htl⟩ := truths_pos h.few
  have hb : bestOf s g its = l.foldl (pickT s g) t := by unfold bestOf; rw [htl]
  have hw := truths_le h
  have hgl : (GSo z (encSl encI) (List.map (GSo true encI) (truthsOf its))).l = List.map (GSo true encI) (truthsOf its) := rfl;refine .ifn (Classical.not_not.2 e) (.andx' hz ?_);dsimp only;rw [hgl];refine .el (by rw [List.length_map, htl]; simp) fun a ha => ?_
  have ha : (List.map (GSo true encI) (truthsOf its))[0]? = some a := get_of ha rfl;rw [htl] at ha;cases ha;refine .andx' (rOf_ok h (by rw [htl]; exact List.mem_cons_self)) ?_;refine Ok.andx (P := fun x : (List Int) × (List Int) × (List Int) × (List Int) × (List Int) × Int × Int => x = (bestOf s g its, lostOf (lvs s g).length (bestOf s g its), strangeOf (bestOf s g its), twiceOf (bestOf s g its), movedOf (runsOf (gathOf (lvs s g)) (bestOf s g its)), piecesOf (matesOf s g) (lostOf (lvs s g).length (bestOf s g its)), manyOf s g (bestOf s g its))) (Ok.count (fun s => s.1 - 1) l.length (fun k (x : Int × (List Int) × (List Int) × (List Int) × (List Int) × (List Int) × Int × Int) => x.2 = (fun b => (b, lostOf (lvs s g).length b, strangeOf b, twiceOf b, movedOf (runsOf (gathOf (lvs s g)) b), piecesOf (matesOf s g) (lostOf (lvs s g).length b), manyOf s g b)) ((l.take k).foldl (pickT s g) t)) rfl rfl ?_ ?_) ?_
  ·rintro k ⟨i, x⟩ hk hx hq;simp only at hx hq
   have hik : i = ((k + 1 : Nat) : Int) := by omega
   subst hik;subst hq
   have hlen : (truthsOf its).length = l.length + 1 := by rw [htl]; rfl
   unfold P_r4_Faults_L1;rw [hgl];simp only;obtain ⟨u, hu⟩ : ∃ u, l[k]? = some u := ⟨_, List.getElem?_eq_getElem hk⟩;refine .ifp (by rw [List.length_map]; omega) ?_;refine Ok.andx (P := fun x : (List Int) × (List Int) × (List Int) × (List Int) × (List Int) × Int × Int => x = (fun b => (b, lostOf (lvs s g).length b, strangeOf b, twiceOf b, movedOf (runsOf (gathOf (lvs s g)) b), piecesOf (matesOf s g) (lostOf (lvs s g).length b), manyOf s g b)) ((l.take (k + 1)).foldl (pickT s g) t)) ?_ ?_
   ·refine .el (by rw [List.length_map]; omega) fun a ha => ?_
    have ha := get_of ha rfl;rw [List.getElem?_map, htl, List.getElem?_cons_succ, hu] at ha;cases ha
    have hgu : (GSo true encI u).l = u := rfl;rw [hgu];refine .andx' (rOf_ok h (by rw [htl]; exact List.mem_cons_of_mem _ (List.mem_of_getElem? hu))) ?_;dsimp only;rw [take_snoc hu, List.foldl_append];simp only [List.foldl_cons, List.foldl_nil];generalize (l.take k).foldl (pickT s g) t = b;unfold pickT;refine .ite (fun hc => .some ?_) (fun hc => .some ?_)
    ·rw [if_pos hc]
    ·rw [if_neg hc]
   ·rintro x rfl;exact .chk (i64_small (by omega)) (.some ⟨by simp only; omega, rfl⟩)
  ·rintro ⟨i, x⟩ hx hq;simp only at hx hq;subst hq
   have hlen : (truthsOf its).length = l.length + 1 := by rw [htl]; rfl
   unfold P_r4_Faults_L1;rw [hgl];refine .ifn (by rw [List.length_map]; omega) (.some ?_)
   show _ = _;rw [hb, List.take_length]
  ·rintro x rfl;exact .some rfl
 ·rw [if_neg e];exact .ifp e (.some rfl)
end Go.Am
end
section
namespace Go.Am
set_option linter.unusedVariables false
theorem idxTo_pairwise (p : Nat → Int → Bool) (t : List Int) : ∀ k, (idxTo p t k).Pairwise (· < ·) := by
 intro k
 induction k with
 | zero => exact List.Pairwise.nil
 | succ k ih =>
  cases h : t[k]? with
  | none => rw [idxTo, h]; simpa using ih
  | some n =>
   rw [idxTo_succ h];split
   ·refine List.pairwise_append.2 ⟨ih, List.pairwise_singleton _ _, fun a ha b hb => ?_⟩;rw [List.mem_singleton] at hb;subst hb;obtain ⟨i, rfl, hi, _⟩ := idxTo_nat k a ha;omega
   ·exact ih
theorem mem_plainOf {t : List Int} {x : Int} : x ∈ plainOf t ↔ ∃ (j : Nat) (n : Int), x = j ∧ t[j]? = some n ∧ 0 ≤ n ∧ n ∉ t.take j := by
 constructor
 ·intro h;obtain ⟨j, rfl, hj, n, hn, hp⟩ := idxTo_nat _ x h
  have := of_decide_eq_true hp;exact ⟨j, n, rfl, hn, this.1, this.2⟩
 ·rintro ⟨j, n, rfl, hn, h1, h2⟩;exact (mem_idxTo hn _).2 ⟨(List.getElem?_eq_some_iff.1 hn).1, decide_eq_true ⟨h1, h2⟩⟩
theorem first_same {t : List Int} {i j : Nat} {n : Int} (h1 : t[i]? = some n) (h2 : n ∉ t.take i) (h3 : t[j]? = some n) (h4 : n ∉ t.take j) : i = j := by
 rcases Nat.lt_trichotomy i j with h | h | h
 ·exact absurd (mem_take h1 h) h4
 ·exact h
 ·exact absurd (mem_take h3 h) h2
theorem keyAt_nat {t : List Int} {j : Nat} {n : Int} (h : t[j]? = some n) : keyAt t (j : Int) = n := by
 unfold keyAt;rw [Int.toNat_natCast, h]
theorem plain_keys {t : List Int} : ((plainOf t).map (keyAt t)).Nodup := by
 rw [List.Nodup, List.pairwise_map];refine (idxTo_pairwise _ t t.length).imp_of_mem fun {a b} ha hb hlt e => ?_
 obtain ⟨i, n, rfl, h1, _, h2⟩ := mem_plainOf.1 ha;obtain ⟨j, m, rfl, h3, _, h4⟩ := mem_plainOf.1 hb;rw [keyAt_nat h1, keyAt_nat h3] at e;subst e
 have := first_same h1 h2 h3 h4;omega
theorem plain_sort {N : Nat} {t : List Int} (ht : t.length ≤ 120) (hin : ∀ x ∈ t, x = -1 ∨ 0 ≤ x ∧ x < N) (hN : N ≤ 120) : SortOk t (plainOf t) := by
 have hl : (plainOf t).length ≤ t.length := idxTo_len _ _ _;refine ⟨by omega, fun x hx => ?_, plain_keys, fun y hy => by rcases hin y hy with h | h <;> omega⟩;obtain ⟨j, n, rfl, hn, _⟩ := mem_plainOf.1 hx
 have := (List.getElem?_eq_some_iff.1 hn).1;omega
theorem c_has {tw : List Int} {z : Bool} {x : Int} (hl : tw.length ≤ 1000000) : ∃ r : Int, (seqx (iter (P_c_Bound_L2 tw z x) 0) fun _ => some (-1)) = some r ∧ (0 ≤ r ↔ x ∈ tw) := by
 suffices h : Ok (seqx (iter (P_c_Bound_L2 tw z x) 0) fun _ => some (-1)) (fun r => 0 ≤ r ↔ x ∈ tw) from h
 have hg : (GSo z encI tw).l = tw := rfl;refine Ok.seqx (Ok.count (fun s => s) tw.length (fun k _ => x ∉ tw.take k) rfl (by simp) ?_ ?_)
 ·rintro k i hk hx hq;subst hx;unfold P_c_Bound_L2;rw [hg];obtain ⟨y, hy⟩ : ∃ y, tw[k]? = some y := ⟨_, List.getElem?_eq_getElem hk⟩;refine .ifp (by omega) (.el (by omega) fun a ha => ?_)
  have ha := get_of ha rfl;rw [hy] at ha;cases ha;refine .ite (fun e => .some ?_) (fun e => .chk (i64_small (by omega)) (.some ⟨rfl, ?_⟩))
  ·show 0 ≤ (k : Int) ↔ _;exact ⟨fun _ => e ▸ List.mem_of_getElem? hy, fun _ => by omega⟩
  ·show x ∉ tw.take (k + 1);rw [take_snoc hy, List.mem_append, List.mem_singleton];exact fun h => h.elim hq e
 ·rintro i hx hq;unfold P_c_Bound_L2;rw [hg];refine .ifn (by omega) (.some ?_);rw [List.take_length] at hq
  show Ok (some (-1)) _;exact .some ⟨fun h => by omega, fun h => absurd h hq⟩
theorem c_items {t : List Int} (ht : t.length ≤ 120) : iter (P_c_Bound_L1 t false (twiceOf t) true) (0, []) = some (plainOf t) := by
 have hg : (GSo false encI t).l = t := rfl
 have htw : (twiceOf t).length ≤ t.length := idxTo_len _ _ _;refine Ok.get (Ok.count (fun s => s.1) t.length (fun k (x : Int × List Int) => x.2 = idxTo (isPlain t) t k) rfl rfl ?_ ?_)
 ·rintro k ⟨i, out⟩ hk hx hq;simp only at hx hq;subst hx hq;unfold P_c_Bound_L1;rw [hg];obtain ⟨n, hn⟩ : ∃ n, t[k]? = some n := ⟨_, List.getElem?_eq_getElem hk⟩
  have hl := idxTo_len (isPlain t) t k;refine .ifp (by omega) (Ok.andx (P := fun x => x = idxTo (isPlain t) t (k + 1)) (.el (by omega) fun a ha => ?_) ?_)
  ·have ha := get_of ha rfl;rw [hn] at ha;cases ha;refine .andx' (a := isPlain t k n) (Ok.get ?_) ?_
   ·refine .ite (fun h0 => ?_) (fun h0 => .some ?_)
    ·obtain ⟨r, hr, hiff⟩ := c_has (tw := twiceOf t) (z := true) (x := (k : Int)) (by omega);refine .andx' hr (.some ?_)
     have hm : (k : Int) ∈ twiceOf t ↔ k < t.length ∧ isTwice t k n = true := mem_idxTo hn t.length
     by_cases hmem : n ∈ t.take k
     ·have h1 : isPlain t k n = false := decide_eq_false (fun h => h.2 hmem)
      have h2 : 0 ≤ r := hiff.2 (hm.2 ⟨hk, decide_eq_true ⟨by omega, hmem⟩⟩);rw [h1];simp [h2]
     ·have h1 : isPlain t k n = true := decide_eq_true ⟨by omega, hmem⟩
      have h2 : ¬ 0 ≤ r := fun h => hmem (of_decide_eq_true (hm.1 (hiff.1 h)).2).2
      rw [h1]
      simp; omega
    ·exact (decide_eq_false (fun h => h0 h.1)).symm
   ·rw [idxTo_succ hn];cases isPlain t k n with
    | true => exact .ifp rfl (.chk (by simp; omega) (.some rfl))
    | false => exact .ifn (by simp) (.some rfl)
  ·rintro x rfl;exact .chk (i64_small (by omega)) (.some ⟨rfl, rfl⟩)
 ·rintro ⟨i, out⟩ hx hq;simp only at hx hq;unfold P_c_Bound_L1;rw [hg];exact .ifn (by omega) (.some hq)
noncomputable def boundSaid (s : Int) (g : List Gat) (its : List Item) : List Int × Int := if okCase s g its then (sortBy (keyAt (bestOf s g its)) (plainOf (bestOf s g its)), 0) else ([], (caseErr s g its).2.2)
theorem c_Bound_ok {s : Int} {g : List Gat} {its : List Item} : P_c_Bound s g its = some (boundSaid s g its) := by
 refine Ok.get ?_;unfold P_c_Bound boundSaid;refine .andx' c_Faults_ok ?_;unfold faultsSaid
 by_cases e : okCase s g its
 ·have h := case_good e
  have hil := h.il;rw [if_pos e, if_pos e];obtain ⟨hb, _⟩ := best_in (s := s) (g := g) h.few
  have hti := truths_in h _ hb;generalize bestOf s g its = t at *
  have hl := hti.1;exact .ifn (by simp) (.andx' (c_items (by omega)) (.chk (plain_sort (t := t) (by omega) hti.2 h.nl) (.some rfl)))
 ·rw [if_neg e, if_neg e];exact .ifp e (.some rfl)
theorem r4_first {t : List Int} {z : Bool} {n : Int} {out : List Int} (ht : t.length ≤ 120) (hol : out.length ≤ 1000) :
  ∃ r, iter (P_r4_Bound_L2 t z n out) 0 = some r ∧ ((∃ i : Nat, t[i]? = some n ∧ n ∉ t.take i ∧ r = out ++ [(i : Int)]) ∨ n ∉ t ∧ r = out) := by
 have hg : (GSo z encI t).l = t := rfl;refine Ok.count (fun s => s) t.length (fun k _ => n ∉ t.take k) rfl (by simp) ?_ ?_
 ·rintro k i hk hx hq;subst hx;unfold P_r4_Bound_L2;rw [hg];obtain ⟨y, hy⟩ : ∃ y, t[k]? = some y := ⟨_, List.getElem?_eq_getElem hk⟩;refine .ifp (by omega) (.el (by omega) fun a ha => ?_)
  have ha := get_of ha rfl;rw [hy] at ha;cases ha;refine .ite (fun e => .chk (by simp; omega) (.some ?_)) (fun e => .chk (i64_small (by omega)) (.some ⟨rfl, ?_⟩))
  ·subst e;exact .inl ⟨k, hy, hq, rfl⟩
  ·show n ∉ t.take (k + 1);rw [take_snoc hy, List.mem_append, List.mem_singleton];exact fun h => h.elim hq (fun h => e h.symm)
 ·rintro i hx hq;unfold P_r4_Bound_L2;rw [hg];rw [List.take_length] at hq;exact .ifn (by omega) (.some (.inr ⟨hq, rfl⟩))
theorem r4_items {t : List Int} {z : Bool} {lv : List Leaf} (ht : t.length ≤ 120) (hlv : lv.length ≤ 120) (hin : ∀ x ∈ t, x = -1 ∨ 0 ≤ x ∧ x < lv.length) : iter (P_r4_Bound_L1 t z lv) (0, []) = some (sortBy (keyAt t) (plainOf t)) := by
  refine Ok.get (Ok.mono (Q' := fun r => r = _) (Ok.count (Q := fun r : List Int => (∀ x : Int, x ∈ r ↔ ∃ (j : Nat) (n : Int), x = j ∧ t[j]? = some n ∧ 0 ≤ n ∧ n < lv.length ∧ n ∉ t.take j) ∧ r.Pairwise fun a b => keyAt t a - keyAt t b < 0) (fun s => s.1) lv.length
    (fun k (x : Int × List Int) => (∀ y : Int, y ∈ x.2 ↔ ∃ (j : Nat) (n : Int), y = j ∧ t[j]? = some n ∧ 0 ≤ n ∧ n < k ∧ n ∉ t.take j) ∧ (x.2.Pairwise fun a b => keyAt t a - keyAt t b < 0) ∧ x.2.length ≤ k) rfl ?_ ?_ ?_) ?_)
  · refine ⟨fun y => ⟨fun h => (by cases h), ?_⟩, List.Pairwise.nil, Nat.le_refl _⟩
    rintro ⟨j, n, _, _, h1, h2, _⟩
    omega
  · rintro k ⟨i, out⟩ hk hx ⟨q1, q2, q3⟩
    simp only at hx q1 q2 q3
    subst hx
    unfold P_r4_Bound_L1
    obtain ⟨r, hr, hc⟩ := r4_first (t := t) (z := z) (n := (k : Int)) (out := out) ht (by omega)
    refine .ifp (by omega) (.andx' hr (.chk (i64_small (by omega)) (.some ⟨rfl, ?_⟩)))
    show (∀ y, y ∈ r ↔ _) ∧ r.Pairwise _ ∧ r.length ≤ k + 1
    rcases hc with ⟨j, h1, h2, rfl⟩ | ⟨h1, rfl⟩
    · refine ⟨fun y => ?_, List.pairwise_append.2 ⟨q2, List.pairwise_singleton _ _, fun a ha b hb => ?_⟩, by simp; omega⟩
      · rw [List.mem_append, List.mem_singleton, q1]
        constructor
        · rintro (⟨j', n, e1, e2, e3, e4, e5⟩ | rfl)
          · exact ⟨j', n, e1, e2, e3, by omega, e5⟩
          · exact ⟨j, k, rfl, h1, by omega, by omega, h2⟩
        · rintro ⟨j', n, rfl, e2, e3, e4, e5⟩
          by_cases hn : n = k
          · subst hn
            exact .inr (by rw [first_same e2 e5 h1 h2])
          · exact .inl ⟨j', n, rfl, e2, e3, by omega, e5⟩
      · rw [List.mem_singleton] at hb
        subst hb
        obtain ⟨j', n, rfl, e2, e3, e4, e5⟩ := (q1 a).1 ha
        rw [keyAt_nat e2, keyAt_nat h1]
        omega
    · refine ⟨fun y => ?_, q2, by omega⟩
      rw [q1]
      constructor
      · rintro ⟨j', n, e1, e2, e3, e4, e5⟩
        exact ⟨j', n, e1, e2, e3, by omega, e5⟩
      · rintro ⟨j', n, rfl, e2, e3, e4, e5⟩
        have hn : n ≠ k := fun e => h1 (e ▸ List.mem_of_getElem? e2)
        exact ⟨j', n, rfl, e2, e3, by omega, e5⟩
  · rintro ⟨i, out⟩ hx ⟨q1, q2, q3⟩
    simp only at hx q1 q2
    unfold P_r4_Bound_L1
    exact .ifn (by omega) (.some ⟨q1, q2⟩)
  · rintro r ⟨h1, h2⟩
    have hs := sortBy_sorted (plain_keys (t := t))
    have hn1 : r.Nodup := h2.imp fun {a b} h e => by subst e; omega
    have hn2 : (sortBy (keyAt t) (plainOf t)).Nodup := hs.imp fun {a b} h e => by subst e; omega
    have hm : ∀ x, x ∈ r ↔ x ∈ sortBy (keyAt t) (plainOf t) := fun x => by
      rw [(sortBy_perm _ _).mem_iff, mem_plainOf, h1]
      constructor
      · rintro ⟨j, n, e1, e2, e3, _, e5⟩; exact ⟨j, n, e1, e2, e3, e5⟩
      · rintro ⟨j, n, e1, e2, e3, e5⟩
        refine ⟨j, n, e1, e2, e3, ?_, e5⟩
        rcases hin n (List.mem_of_getElem? e2) with h | h <;> omega
    refine ord_unique (N := (t.length : Int)) (ord_key (keyAt t) _) ((List.perm_ext_iff_of_nodup hn1 hn2).2 hm) (fun x hx => ?_) h2 hs
    obtain ⟨j, n, rfl, e2, _⟩ := (h1 x).1 hx
    have := (List.getElem?_eq_some_iff.1 e2).1
    omega
theorem r4_Bound_ok {s : Int} {g : List Gat} {its : List Item} : P_r4_Bound s g its = some (boundSaid s g its) := by
 refine Ok.get ?_;unfold P_r4_Bound boundSaid;refine .andx' r4_Faults_ok ?_;unfold faultsSaid
 by_cases e : okCase s g its
 ·have h := case_good e
  have hil := h.il;rw [if_pos e, if_pos e];obtain ⟨hb, _⟩ := best_in (s := s) (g := g) h.few
  have hti := truths_in h _ hb;generalize bestOf s g its = t at *
  have hl := hti.1;exact .ifn (by simp) (.andx' (All1_ok h.book) (.andx' (r4_items (by omega) h.nl hti.2) (.some rfl)))
 ·rw [if_neg e, if_neg e];exact .ifp e (.some rfl)
theorem c_Check_ok {s : Int} {g : List Gat} {its : List Item} : P_c_Check s g its = some (caseErr s g its) := by
 unfold P_c_Check;rw [open_ok]
 by_cases e : okCase s g its
 ·rw [openRes_ok e];simp only [andx];rw [chk_pos trivial]
  have h := case_good e
  have : caseErr s g its = (0, 0, 0) := by
   obtain ⟨h1, h2, h3, h4, h5⟩ := okCase_iff.1 e;unfold caseErr;rw [if_pos h1, if_neg (by unfold lvs at h2; omega), if_neg (by omega)]
   have e1 : itemsErr ((leavesOf (bk s g)).length : Int) 0 its = none := items_none its 0 h4;rw [e1];simp only;rw [doubts_none its 0 0 (by omega)]
  rw [this]
 ·rw [openRes_err e];simp only [andx];rw [chk_pos e]
theorem CopyFaults_true (s : Int) (g : List Gat) (its : List Item) : P_law_CopyFaults s g its = some true := by
 refine Ok.get ?_;unfold P_law_CopyFaults
 have hC1 := c_Check_ok (s := s) (g := g) (its := its)
 have hC2 := r4_Check_ok (s := s) (g := g) (its := its);generalize caseErr s g its = C at hC1 hC2;obtain ⟨c1, c2, c3⟩ := C;refine .andx' hC1 (.andx' hC2 ?_);refine Ok.seqx (.andx' (a := false) (Ok.get (.ifn (by simp) (.ifn (by simp) (.some (by simp))))) (.ifn (by simp) (.some ?_)))
 show Ok _ _
 have hlen : (faultsSaid s g its).1.length ≤ 1000000 ∧ (faultsSaid s g its).2.2.1.length ≤ 1000000 ∧ (faultsSaid s g its).2.2.2.2.2.1.length ≤ 1000000 ∧ (faultsSaid s g its).2.2.2.2.2.2.2.1.length ≤ 1000000 ∧ (faultsSaid s g its).2.2.2.2.2.2.2.2.2.1.length ≤ 1000000 := by
  unfold faultsSaid
  by_cases e : okCase s g its
  ·have h := case_good e
   have hil := h.il
   have hnl := h.nl;rw [if_pos e];obtain ⟨hb, _⟩ := best_in (s := s) (g := g) h.few
   have hti := truths_in h _ hb;generalize bestOf s g its = t at *
   have hl := hti.1
   have h1 := lostOf_len (lvs s g).length t
   have h2 : (strangeOf t).length ≤ t.length := idxTo_len _ _ _
   have h3 : (twiceOf t).length ≤ t.length := idxTo_len _ _ _
   have h4 := movedOf_len (runsOf (gathOf (lvs s g)) t)
   have h5 := (runsTo_ok (g := gathOf (lvs s g)) (N := (lvs s g).length) (t := t) (fun x hx => by rcases hti.2 x hx with h | h <;> omega) t.length).2
   have h6 : (runsOf (gathOf (lvs s g)) t).length ≤ t.length := h5;refine ⟨?_, ?_, ?_, ?_, ?_⟩ <;> simp only <;> omega
  ·rw [if_neg e];refine ⟨?_, ?_, ?_, ?_, ?_⟩ <;> simp
 have hF1 := c_Faults_ok (s := s) (g := g) (its := its)
 have hF2 := r4_Faults_ok (s := s) (g := g) (its := its);generalize faultsSaid s g its = F at *;obtain ⟨f1, z1, f2, z2, f3, f4, z4, f5, z5, f6, z6, f7, f8⟩ := F;simp only at hlen;obtain ⟨l1, l2, l3, l4, l5⟩ := hlen
 have hg : ∀ (z : Bool) (l : List Int), (GSo z encI l).l = l := fun _ _ => rfl
 refine .andx' hF1 (.andx' hF2 ?_);simp only [hg];refine Ok.seqx (.andx' (a := false) (Ok.get (.andx' (a := true) (Ok.get ?_) (.ifp rfl (.some (by simp))))) (.ifn (by simp) (.some ?_)))
 ·unfold P_r4_Same;refine .andx' (a := true) (Ok.get ?_) (.some rfl);refine .andx' (ints_ok l1) (.ifp (by simp) (.andx' (ints_ok l2) (.ifp (by simp) (.ifp rfl (.andx' (ints_ok l3) (.ifp (by simp) (.andx' (ints_ok l4) (.ifp (by simp) (.andx' (ints_ok l5) (.ifp (by simp) (.some (by simp))))))))))))
 show Ok _ _
 have hR1 := c_Range_ok (s := s) (g := g) (its := its)
 have hR2 := r4_Range_ok (s := s) (g := g) (its := its);generalize rangeSaid s g its = R at *;obtain ⟨r1, r2, r3⟩ := R;refine .andx' hR1 (.andx' hR2 ?_);refine Ok.seqx (.andx' (a := false) (Ok.get (.ifn (by simp) (.some (by simp)))) (.ifn (by simp) (.some ?_)))
 show Ok _ _
 have hbl : (boundSaid s g its).1.length ≤ 1000000 := by
  unfold boundSaid
  by_cases e : okCase s g its
  ·have h := case_good e
   have hil := h.il;rw [if_pos e];obtain ⟨hb, _⟩ := best_in (s := s) (g := g) h.few
   have hti := (truths_in h _ hb).1;generalize bestOf s g its = t at *
   have h1 : (plainOf t).length ≤ t.length := idxTo_len _ _ _
   have h2 := (sortBy_perm (keyAt t) (plainOf t)).length_eq;simp only;omega
  ·rw [if_neg e]; simp
 have hB1 := c_Bound_ok (s := s) (g := g) (its := its)
 have hB2 := r4_Bound_ok (s := s) (g := g) (its := its);generalize boundSaid s g its = B at *;obtain ⟨b1, b2⟩ := B;refine .andx' hB1 (.andx' hB2 (.andx' (a := true) (Ok.get (.andx' (ints_ok hbl) (.ifp (by simp) (.ifp rfl (.some rfl))))) (.some rfl)))
end Go.Am
end
section

end
section
namespace Go.Am.YthckcbfijdambaaGreat
open Go.Am Go.RowKit
theorem copyFaults_calls (w : World) (c_Book_Signed : Int) (c_Book_Gatherings : GS encG) (c_Items : GS encIt) (xs : List Value) (h : RelL (snapR w 0) [.agg [iv (c_Book_Signed), c_Book_Gatherings.v, c_Items.v]] xs) :
  Calls Go.Proofs.Tryz.prog 6 xs.toArray w fun e w' => e = .returned (.bool true) ∧ Below w.heap.size w w' :=
 ((w_law_CopyFaults c_Book_Signed c_Book_Gatherings c_Items true (CopyFaults_true _ _ _)).runsTo.calls (EL_good 7) w xs h).mono fun e w' ⟨x, he, hr, hb⟩ => ⟨by rw [he]; cases hr; rfl, hb⟩
end Go.Am.YthckcbfijdambaaGreat
namespace Go.Proofs.YthckcbfijdambaaGreat.copyFaults
open Go.ChangeShapes Go.WideShapes Go.ChangeAt Go.RowKit
set_option linter.unusedVariables false
theorem own : ownKnob Tryz.prog.godebug = none := by kernel_rfl
theorem laid : laidOutB Tryz.prog = true := by kernel_rfl
set_option maxRecDepth 100000 in
theorem lifted (os : Os) (started : os.Started) (H : Type) (enc : TypeId × Value → H) :
  ReturnsInHanded {} Tryz.checked os 6 .any (Rows.copyFaultsSpec.pre6 enc Tryz.prog Tryz.f6 Rows.copyFaultsRow.domain false) (Rows.copyFaultsSpec.post enc Tryz.prog Tryz.f6 false true false false) := by
 refine returnsInHanded_of_change (C := Tryz.checked) own started (by kernel_rfl) Tryz.func6
  (ChangeSpec.witness6 (enc := enc) (C := Tryz.checked) false ⟨#[], #[.agg #[.int .i64 0, .slice none 0 0, .slice none 0 0]], []⟩ 8 (by kernel_rfl) (by kernel_rfl) (by kernel_rfl) (by kernel_rfl)) ?_
 intro W base args ds gs before hval0 hW hcnd _
 have hW' := hW;obtain ⟨p, q, hA0, hV, rfl, hfz, hnd⟩ := hW
 have hA : DataW.TrodAll enc Tryz.prog W 0 (fun _ => true) true Tryz.f6.params.toList args.toList ds p := hA0
 have hval : ∀ (j : Nat) t v, Tryz.f6.params[j]? = some t → args[j]? = some v → Value.okWide Tryz.prog W .any base t v := hval0;rw [Tryz.params6] at hA hval;obtain ⟨v0, d0, rfl, rfl, h0⟩ := trodAll_one hA;obtain ⟨rfl, rfl⟩ := trodVars_none hV;obtain ⟨x0, r0⟩ := Go.Am.YthckcbfijdambaaGreat.li_27.arg Tryz.underlying27 (hval 0 27 v0 rfl rfl) h0
 clear hA0 hval0
 refine (Go.Am.YthckcbfijdambaaGreat.copyFaults_calls W x0.book.signed x0.book.gs x0.items [v0] (.cons r0 (.nil _))).mono fun e W' ⟨he, bel⟩ => ?_
 subst he
 have hlt : ∀ x ∈ p, x.block < W.heap.size := fun x hx => hW'.lt x (by simpa using hx)
 have k0 := Below.trod laid (by kernel_rfl) (of_decide_eq_true (by kernel_rfl)) h0 bel fun x hx => hlt x (by simp [hx])
 exact ⟨_, rfl, _, _, _, [], _, [], hW', trodAll_mk1 (shut_bool Tryz.underlying4 _), trodAll_mk1 k0, rfl, bel.frame _, fun h => by cases h⟩
theorem over : Rows.copyFaultsRow.holds Tryz.pinned (OpenSpec.ofChange Rows.copyFaultsSpec) :=
 OpenClaim.holds_of_wide 6 Tryz.f6 rfl rfl rfl rfl rfl rfl rfl ⟨rfl, rfl, rfl, rfl, rfl⟩ rfl rfl rfl rfl rfl (by kernel_rfl) Tryz.func6 (by kernel_rfl)
  (of_decide_eq_true (by kernel_rfl)) (by unfold Func.isWrapper; first | (rw [if_pos (by decide +kernel)]; kernel_rfl) | (rw [if_neg (by decide +kernel)]; exact ⟨rfl, rfl⟩))
  (fun os started H enc _ => lifted os started H enc)
theorem proved : Rows.CopyFaultsSaid := over
#print axioms proved
end Go.Proofs.YthckcbfijdambaaGreat.copyFaults
end
