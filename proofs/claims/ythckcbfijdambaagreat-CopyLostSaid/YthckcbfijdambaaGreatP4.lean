/- Part 4. -/
import Derived.Test.YthckcbfijdambaaGreatP3
import Derived.Test.YthckcbfijdambaaGreatP2
import Derived.ChangeArms
import Derived.ChangeSlices
import Derived.OpenShut
import Derived.Test.YthckcbfijdambaaGreatRows
import Derived.ProofKit
section
namespace Go.Am.YthckcbfijdambaaGreat
open Go.Am Go.RowKit
set_option linter.unusedVariables false
set_option linter.unusedSimpArgs false
set_option maxRecDepth 10000 in
theorem tf_c_wide {k : Nat} (hk : 0 ≤ k) {C : List Thing} {id_x : Nat} {x_CpCase_Book_Signed : Int} {v_x_CpCase_Book_Gatherings : AV} {x_CpCase_Book_Gatherings : List Gat} {v_x_CpCase_Items : AV} {x_CpCase_Items : List Item} {v_x_leaves : AV} {x_leaves : List Leaf} {v_x_mates : AV} {x_mates : List Int} (h_x_CpCase_Book_Gatherings : Rdl C encG v_x_CpCase_Book_Gatherings x_CpCase_Book_Gatherings) (h_x_CpCase_Items : Rdl C encIt v_x_CpCase_Items x_CpCase_Items) (h_x_leaves : Rdl C encL v_x_leaves x_leaves) (h_x_mates : Rdl C encI v_x_mates x_mates) (h_x : Thing.row id_x 5 [iv (x_CpCase_Book_Signed), v_x_CpCase_Book_Gatherings, v_x_CpCase_Items, v_x_leaves, v_x_mates] ∈ C) {r : Int × Int} (h : P_c_wide x_CpCase_Book_Signed x_CpCase_Book_Gatherings x_CpCase_Items x_leaves x_mates = some r) :
  TF (EL k) 42 [.ptr id_x 0 5] C (RepF (fun (w : Unit) => .agg [iv r.1, iv r.2]) (fun (w : Unit) => C)) := by
 unfold P_c_wide at h;refine TF.enterG (fn := Go.Proofs.Tryz.f42) rfl rfl rfl rfl rfl (zU rfl (zQ 1 [_] R7 (fun b1=>zJ 2 [_,_] R7 (fun b2=>zN (zS (T.drawE (l1 := [0, 1, 2, 3, 4, 5, 6, 7, 8, 9, 10, 11, 12, 13]) (l2 := [14]) (by kernel_rfl) (by kernel_rfl) (yR R4 (vR (p := 1) R6) (yL R4 (Val.nil_ptr rfl) (yL R4 (Val.faddr_ptr (fo := 3) rfl rfl rfl) (yR R4 (Val.load_rowM h_x M2 ⟨_, rfl, rfl⟩ rfl rfl rfl) (yR R4 (Val.len_l h_x_leaves M2 rfl rfl) (yR R4 (vR (p := 1) R6) (yL R4 (Val.nil_ptr rfl) (yL R4 (Val.faddr_ptr (fo := 0) rfl rfl rfl) (yL R4 (Val.faddr_ptr (fo := 2) rfl rfl rfl) (yR R4 (Val.load_rowM h_x M2 ⟨_, rfl, rfl⟩ rfl rfl rfl) (yR R4 (Val.len_l h_x_CpCase_Items M2 rfl rfl) ?_)))))))))))))))));obtain ⟨hk16, h⟩ := chk_some h;refine yL R4 (Val.mul rfl rfl hk16) ?_;obtain ⟨hk17, h⟩ := chk_some h;refine yL R4 (Val.add rfl rfl hk17) (yL R4 (Val.faddr_ptr (fo := 0) rfl rfl rfl) (TD1.over (fun v => sameC_refl v) (all_cons (⟨_, rfl, (Val.len_l h_x_CpCase_Items M2 rfl rfl)⟩) (all_cons (⟨_, rfl, (Val.load_rowM h_x M2 ⟨_, rfl, rfl⟩ rfl rfl rfl)⟩) (all_cons (⟨_, rfl, (vR (p := 1) R6)⟩) (all_cons (⟨_, rfl, (Val.len_l h_x_leaves M2 rfl rfl)⟩) (all_cons (⟨_, rfl, (Val.load_rowM h_x M2 ⟨_, rfl, rfl⟩ rfl rfl rfl)⟩) (all_cons (⟨_, rfl, (vR (p := 1) R6)⟩) all_nil)))))) (TD2.heavy (fun v => sameC_refl v) rfl (by decide) rfl rfl (OpS.eff (Eff.store_row (p := 0) (cv := [_]) (cells' := [_, _]) rfl rfl rfl rfl rfl rfl rfl rfl aG (by decide) rfl)) ?_)));rintro _ _ rfl;refine ⟨(all_cons (.inl (by kernel_rfl)) (all_cons (.inl (by kernel_rfl)) (all_cons (.inl (by kernel_rfl)) (all_cons (.inl (by kernel_rfl)) (all_cons (.inl (by kernel_rfl)) (all_cons (.inl (by kernel_rfl)) all_nil)))))), all_nil, ?_⟩;refine yG (_::_::C) rfl (TD2.nil ?_)
 show T _ _ _ _ _ _;apply T.joinA (r := r) (W := Nat) (fun j w => ⟨[w], [(2, .ptr b2 0 2)], .obj w (.dfr true) :: .row b2 2 [iv (j.1), iv (j.2)] :: .row b1 1 [.ptr id_x 0 5] :: C⟩) h
 ·intro j h;refine zU rfl (zL 1 R3 R6 (TO.callIn rfl rfl rfl rfl rfl rfl (orcN rfl) (TF.enter (fn := Go.Proofs.Tryz.f54) rfl rfl rfl rfl rfl (zU rfl (zQ 1 [_] R7 (fun b1_2=>zA R4 (zN (zU rfl (zV R3 (Val.makeFunc rfl rfl) (zA R4 (zN (zR ?_))))))))))));refine ⟨rfl, _, rfl, ?_⟩;refine zN (zB ?_);obtain ⟨hkR1, h⟩ := chk_some h
  show T _ _ _ _ _ _;apply T.rangeP (r := j) (W := Unit) (w0 := ()) ArgT (fun (j : Int × Int) (w : Unit) => [.row b2 2 [iv (j.1), iv (j.2)]]) (.row b1_2 1 [.ptr id_x 0 5] :: .row b1 1 [.ptr id_x 0 5] :: C) h
  ·rfl
  ·rfl
  ·rfl
  ·exact (pk [1] rfl)
  ·exact tr_yields (List.mem_of_getElem? (i := 0) rfl) (M2 _ h_x) (Rdl.mono h_x_CpCase_Items M2) hkR1
  ·rintro l1 d ⟨s_Lo, s_Hi⟩ _ t vs G F1 ans hmem harg hD hG h;unfold P_c_wide_L1 at h;dsimp only at h;obtain ⟨v_t, rfl, rfl⟩ := harg
   have h_t : Rdl F1 encI v_t t := .inr ⟨false, hG _ (by simp)⟩
   have hCF : ∀ x ∈ C, x ∈ F1 := fun x hx => hD x (memS M1 x hx)
   replace h_x_CpCase_Book_Gatherings := Rdl.mono h_x_CpCase_Book_Gatherings hCF;replace h_x_CpCase_Items := Rdl.mono h_x_CpCase_Items hCF;replace h_x_leaves := Rdl.mono h_x_leaves hCF;replace h_x_mates := Rdl.mono h_x_mates hCF;replace h_x := hCF _ h_x
   have hu1_t3 : Thing.row b1_2 1 [.ptr id_x 0 5] ∈ F1 := (hD _ (List.mem_of_getElem? (i := 0) rfl))
   have hu1_t1 : Thing.row b1 1 [.ptr id_x 0 5] ∈ F1 := (hD _ (List.mem_of_getElem? (i := 1) rfl));refine ⟨_, rfl, fun LR1 LB1 hLB1 => ?_⟩;refine T.things (hs' := LR1 :: .row b2 2 [iv (s_Lo), iv (s_Hi)] :: F1) rfl (zT rfl (zA R4 (zN ?_)));refine ⟨rfl, 0, rfl, ?_⟩;refine T.things (hs' := LB1 :: .row b2 2 [iv (s_Lo), iv (s_Hi)] :: F1) rfl (zB (zU rfl (zV R3 (Val.load_rowM hu1_t1 M2 ⟨_, rfl, rfl⟩ rfl rfl rfl) (zM R4 ?_))));obtain ⟨⟨y24, y24_2, y24_3, y24_4, y24_5, y24_6, y24_7⟩, hr24, h⟩ := andx_some h;dsimp only at h;refine TO.callT (first := []) (cap := []) (vs := [.ptr id_x 0 5, v_t]) rfl rfl rfl rfl rfl rfl (orcN rfl) (tf_c_faults aD (Rdl.mono h_x_CpCase_Book_Gatherings M2) (Rdl.mono h_x_CpCase_Items M2) (Rdl.mono h_x_leaves M2) (Rdl.mono h_x_mates M2) (M2 _ h_x) (Rdl.mono h_t M2) hr24) ?_;rintro ⟨w24, w24_2, w24_3, w24_4, w24_5⟩;refine zG (_::_::_::_::_::_::_::F1) rfl (zV R3 (Val.field (k := 0) rfl rfl rfl rfl rfl) (zA R4 (zN (zT rfl (zF 0 R6 (zL 6 R3 R6 (zM R4 (zV R3 (Val.bmin rfl rfl) (zF 1 R6 (zL 6 R3 R6 (zM R4 (zV R3 (Val.bmax rfl rfl) (zV R3 (Val.buildC (cs := [_, _]) (vs := [(_, _), (_, _)]) (ws := [(_, [_]), (_, [_])]) rfl rfl (CellsL.cons rfl (CellsL.cons rfl CellsL.nil)) rfl) (TO.eff0 rfl rfl (Eff.store_row (p := 6) (cv := [_, _]) (cells' := [_, _]) rfl rfl rfl rfl rfl rfl rfl rfl aG (by decide) rfl) ?_))))))))))))));rintro _ rfl;refine zG (_::_::_::_::_::_::_::F1) rfl (zN ?_);cases h;exact ⟨rfl, (), (pk [5,5,98,98,98,98,98] rfl)⟩
  ·rintro d ⟨s_Lo, s_Hi⟩ _ h;dsimp only at h;cases h;exact ⟨rfl, d, (sb (pk [0,0,1,98] rfl))⟩
 ·rintro ⟨s_Lo, s_Hi⟩ iddfr1 h;dsimp only at h;dsimp only;refine zU rfl (zV R3 (vW 1 [_,_] R5 R4) (TO.eff0 rfl rfl (Eff.store_row (p := 1) (cv := [_, _]) (cells' := [_, _]) rfl rfl rfl rfl rfl rfl rfl rfl aG (by decide) rfl) ?_));rintro _ rfl;refine zG (_::_::_::C) rfl (zN (zR ?_));cases h;exact ⟨rfl, _, ⟨0, rfl, rfl⟩, [_], ⟨⟨_, rfl, LoadR.rows (p := 0) (c := [_, _]) rfl ⟨⟨_, rfl, rfl⟩, rfl, by decide⟩ rfl rfl rfl⟩, trivial⟩, ⟨(), rfl, (pk [98,98] rfl)⟩⟩
set_option maxRecDepth 10000 in
theorem tf_c_open {k : Nat} (hk : 5 ≤ k) {C : List Thing} {c_Book_Signed : Int} {v_c_Book_Gatherings : AV} {c_Book_Gatherings : List Gat} {v_c_Items : AV} {c_Items : List Item} (h_c_Book_Gatherings : Rdl C encG v_c_Book_Gatherings c_Book_Gatherings) (h_c_Items : Rdl C encIt v_c_Items c_Items) {r : Sum (Int × Int × Int) (Int × (GS encL) × (List Int) × Int × Int × Int)} (h : P_c_open c_Book_Signed c_Book_Gatherings c_Items = some r) :
  TF (EL k) 40 [.agg [iv (c_Book_Signed), v_c_Book_Gatherings, v_c_Items]] C (RepS (fun (r : Int × Int × Int) => RepF (fun (w : Unit) => .tuple [.lit (.pointer none), iv r.1, iv r.2.1, iv r.2.2]) (fun (w : Unit) => C)) (fun (r : Int × (GS encL) × (List Int) × Int × Int × Int) => RepF (fun (w : Nat × AV) => .tuple [.ptr w.1 0 5, iv r.2.2.2.1, iv r.2.2.2.2.1, iv r.2.2.2.2.2]) (fun (w : Nat × AV) => .row w.1 5 [iv r.1, v_c_Book_Gatherings, v_c_Items, r.2.1.v, w.2] :: ownL true w.2 encI r.2.2.1 :: C)) r) := by
 unfold P_c_open at h;refine TF.enter (fn := Go.Proofs.Tryz.f40) rfl rfl rfl rfl rfl (zU rfl (zQ 3 [_,_,_] R7 (fun b1=>zA R4 (zA R4 (zA R4 (zA R4 (zN (zS (zU rfl (zF 0 R6 (zV R3 (vW 0 [_,_] R5 R4) ?_)))))))))));obtain ⟨⟨part21, at_21, e21⟩, hr21, h⟩ := andx_some h;dsimp only at h;obtain ⟨g, hgg, hrg⟩ := Rdl.reif (hs := .row b1 3 [iv (c_Book_Signed), v_c_Book_Gatherings, v_c_Items] :: C) h_c_Book_Gatherings M1 (ReifL.flat encG_tr);refine TO.call rfl rfl rfl rfl rfl (orcL rfl aD) (.cons (.agg (.cons .lit (.cons (hrg _) .nil))) .nil) (sem_of (w_q_Check c_Book_Signed g _ (by try rw [hgg]; exact hr21))) (zM R4 (zX R5 (zX R5 (zX R5 (zA R4 (zN (zU rfl (zM R4 ?_))))))));obtain ⟨c26, hc26⟩ := zY (¬ e21 = 0);refine zV R3 (Val.neq hc26 rfl rfl) (zN ?_);obtain ⟨rfl, hc26, h⟩ | ⟨rfl, hc26, h⟩ := zI hc26 h
 ·refine zC rfl (zU rfl (zM R4 (zA R4 (zA R4 (zA R4 (zA R4 (zN (zR ?_))))))));cases h;exact ⟨rfl, _, rfl, ⟨(), rfl, (pk [98] rfl)⟩⟩
 refine zD rfl (zK (zU rfl (zF 0 R6 (zV R3 (vW 0 [_,_] R5 R4) ?_))));obtain ⟨⟨leaves31, e31⟩, hr31, h⟩ := andx_some h;dsimp only at h;obtain ⟨g_2, hgg_2, hrg_2⟩ := Rdl.reif (hs := .row b1 3 [iv (c_Book_Signed), v_c_Book_Gatherings, v_c_Items] :: C) h_c_Book_Gatherings M1 (ReifL.flat encG_tr);refine TO.call rfl rfl rfl rfl rfl (orcL rfl aD) (.cons (.agg (.cons .lit (.cons (hrg_2 _) .nil))) .nil) (sem_of (w_q_Leaves c_Book_Signed g_2 _ (by try rw [hgg_2]; exact hr31))) (zM R4 (zX R5 (zX R5 (zA R4 (zA R4 (zN (zS (zU rfl (zM R4 (zV R3 (Val.len_gs rfl rfl) ?_))))))))));obtain ⟨c36, hc36⟩ := zY ((leaves31.length : Int) > 120);refine zV R3 (Val.gtr hc36 rfl rfl) (zN ?_);obtain ⟨rfl, hc36, h⟩ | ⟨rfl, hc36, h⟩ := zI hc36 h
 ·refine zC rfl (zU rfl (zA R4 (zA R4 (zA R4 (zA R4 (zN (zR ?_)))))));cases h;exact ⟨rfl, _, rfl, ⟨(), rfl, (pk [98] rfl)⟩⟩
 refine zD rfl (zK (zS (zU rfl (zF 2 R6 (zL 0 R3 R6 (zV R3 (Val.len_l h_c_Items M1 rfl rfl) ?_))))));obtain ⟨c40, hc40⟩ := zY ((c_Items.length : Int) > 120);refine zV R3 (Val.gtr hc40 rfl rfl) (zN ?_);obtain ⟨rfl, hc40, h⟩ | ⟨rfl, hc40, h⟩ := zI hc40 h
 ·refine zC rfl (zU rfl (zA R4 (zA R4 (zA R4 (zA R4 (zN (zR ?_)))))));cases h;exact ⟨rfl, _, rfl, ⟨(), rfl, (pk [98] rfl)⟩⟩
 refine zD rfl (zK ?_)
 show T _ _ _ _ _ _;apply T.join (r := r) (W := Unit) (fun j w => ⟨[], [(1, .ptr b1 0 3), (6, (GSo true encL leaves31).v)], .row b1 3 [iv (c_Book_Signed), v_c_Book_Gatherings, v_c_Items] :: C⟩) h
 ·intro j h;refine zU rfl (zF 2 R6 (zL 0 R3 R6 (zV R3 (Val.len_l h_c_Items M1 rfl rfl) (zM R4 (zN (zB ?_))))))
  show T _ _ _ _ _ _;apply T.iter (r := j) (W := Unit) (fun j w => ⟨[], [(1, .ptr b1 0 3), (6, (GSo true encL leaves31).v), (42, v_c_Items), (43, iv ((c_Items.length : Int))), (44, iv (j))], .row b1 3 [iv (c_Book_Signed), v_c_Book_Gatherings, v_c_Items] :: C⟩) (w0 := ()) h
  ·exact (sb .refl)
  rintro x44 _ a h;unfold P_c_open_L1 at h;refine zU rfl ?_;obtain ⟨c45, hc45⟩ := zY (x44 < (c_Items.length : Int));refine zV R3 (Val.lss hc45 rfl rfl) (zN (zS ?_));obtain ⟨rfl, hc45, h⟩ | ⟨rfl, hc45, h⟩ := zI hc45 h
  ·refine zC rfl (zK ?_)
   show T _ _ _ _ _ _;apply T.join (r := a) (W := Unit) (fun j w => ⟨[], [(1, .ptr b1 0 3), (6, (GSo true encL leaves31).v), (42, v_c_Items), (43, iv ((c_Items.length : Int))), (44, iv (x44))], .row b1 3 [iv (c_Book_Signed), v_c_Book_Gatherings, v_c_Items] :: C⟩) h
   ·intro j h;refine zB (zU rfl (zM R4 ?_));obtain ⟨a47, hia47, ea47, h⟩ := el_some h;refine TO.fact (rdl_at h_c_Items M1 hia47 ea47) (fun hp=>?_);obtain ⟨pa47, hpa47, hva47⟩ := hp;refine zV R3 (hva47 ⟨rfl, rfl⟩ rfl rfl) (zV R3 (Val.load_es (c := [_]) hpa47 M1 ⟨⟨_, rfl, rfl⟩, rfl, by decide⟩ rfl rfl rfl) (zJ 1 [_] R7 (fun b9=>zA R4 (TO.eff0 rfl rfl (Eff.store_row (p := 0) (cv := [_]) (cells' := [_]) rfl rfl rfl rfl rfl rfl rfl rfl aG (by decide) rfl) ?_))));rintro _ rfl;refine zG (_::_::C) rfl (zN (zS (zB (zU rfl (zF 0 R6 (zL 0 R3 R6 (zV R3 (Val.len_gs rfl rfl) ?_)))))));obtain ⟨c53, hc53⟩ := zY ((a47.could.l.length : Int) > 4);refine zV R3 (Val.gtr hc53 rfl rfl) (zA R4 (zN ?_));obtain ⟨rfl, hc53, h⟩ | ⟨rfl, hc53, h⟩ := zI hc53 h
    ·refine zC rfl (zU rfl (zM R4 (zA R4 (zA R4 (zA R4 (zA R4 (zN (zR ?_))))))));cases h;exact ⟨ret_ne, ⟨ret_ne, ⟨ret_ne, ⟨rfl, _, rfl, ⟨(), rfl, (pk [98,98] rfl)⟩⟩⟩⟩⟩
    refine zD rfl (zU rfl (zM R4 (zV R3 (Val.len_gs rfl rfl) ?_)));obtain ⟨hk58, h⟩ := chk_some h;refine zV R3 (Val.sub rfl rfl hk58) (zF 0 R6 (zL 0 R3 R6 ?_));obtain ⟨out61, hr61, h⟩ := andx_some h;refine TO.call rfl rfl rfl rfl rfl (orcL rfl aD) (.cons .lit (.cons .lit (.cons .gs .nil))) (sem_of (w_c_outside 0 ((leaves31.length : Int) - 1) a47.could _ (by exact hr61))) (zA R4 (zN ?_));obtain ⟨rfl, h⟩ | ⟨rfl, h⟩ := zZ h
    ·refine zC rfl (zU rfl (zM R4 (zA R4 (zA R4 (zA R4 (zA R4 (zN (zR ?_))))))));cases h;exact ⟨ret_ne, ⟨ret_ne, ⟨ret_ne, ⟨rfl, _, rfl, ⟨(), rfl, (pk [98,98] rfl)⟩⟩⟩⟩⟩
    refine zD rfl (zK (zU rfl (zF 0 R6 (zL 0 R3 R6 (zV R3 (Val.len_gs rfl rfl) (zM R4 (zN (zB ?_))))))))
    show T _ _ _ _ _ _;apply T.iter (r := j) (W := Unit) (fun j w => ⟨[], [(1, .ptr b1 0 3), (6, (GSo true encL leaves31).v), (8, iv (x44)), (9, .ptr b9 0 1), (42, v_c_Items), (43, iv ((c_Items.length : Int))), (44, iv (x44)), (64, a47.could.v), (65, iv ((a47.could.l.length : Int))), (66, iv (j))], .row b9 1 [a47.could.v] :: .row b1 3 [iv (c_Book_Signed), v_c_Book_Gatherings, v_c_Items] :: C⟩) (w0 := ()) h
    ·exact (sb .refl)
    rintro x66 _ a h;unfold P_c_open_L2 at h;refine zU rfl ?_;obtain ⟨c67, hc67⟩ := zY (x66 < (a47.could.l.length : Int));refine zV R3 (Val.lss hc67 rfl rfl) (zN (zS ?_));obtain ⟨rfl, hc67, h⟩ | ⟨rfl, hc67, h⟩ := zI hc67 h
    ·refine zC rfl (zK ?_)
     show T _ _ _ _ _ _;apply T.join (r := a) (W := Unit) (fun j w => ⟨[], [(1, .ptr b1 0 3), (6, (GSo true encL leaves31).v), (8, iv (x44)), (9, .ptr b9 0 1), (42, v_c_Items), (43, iv ((c_Items.length : Int))), (44, iv (x44)), (64, a47.could.v), (65, iv ((a47.could.l.length : Int))), (66, iv (x66))], .row b9 1 [a47.could.v] :: .row b1 3 [iv (c_Book_Signed), v_c_Book_Gatherings, v_c_Items] :: C⟩) h
     ·intro j h;refine zB (zU rfl (zM R4 ?_));obtain ⟨a69, hia69, ea69, h⟩ := el_some h;refine TO.fact (rdl_at (Rdl.gs (C := C) a47.could) M2 hia69 ea69) (fun hp=>?_);obtain ⟨pa69, hpa69, hva69⟩ := hp;refine zV R3 (hva69 ⟨rfl, rfl⟩ rfl rfl) (zV R3 (Val.load_e hpa69 M2 ⟨_, rfl, rfl⟩ rfl rfl) (zA R4 (zA R4 (zN ?_))))
      show T _ _ _ _ _ _;apply T.joinA (r := j) (W := Unit) (fun j w => ⟨[], [(1, .ptr b1 0 3), (6, (GSo true encL leaves31).v), (8, iv (x44)), (9, .ptr b9 0 1), (42, v_c_Items), (43, iv ((c_Items.length : Int))), (44, iv (x44)), (64, a47.could.v), (65, iv ((a47.could.l.length : Int))), (66, iv (x66)), (82, bv j)], .row b9 1 [a47.could.v] :: .row b1 3 [iv (c_Book_Signed), v_c_Book_Gatherings, v_c_Items] :: C⟩) h
      ·intro j h;refine zT rfl (zM R4 ?_);obtain ⟨c72, hc72⟩ := zY (x66 > 0);refine zV R3 (Val.gtr hc72 rfl rfl) (zM R4 ?_);obtain ⟨rfl, hc72, h⟩ | ⟨rfl, hc72, h⟩ := zI hc72 h
       ·refine zM R4 (zF 0 R6 (zL 0 R3 R6 (zM R4 ?_)));obtain ⟨hk78, h⟩ := chk_some h;refine zV R3 (Val.sub rfl rfl hk78) ?_;obtain ⟨a79, hia79, ea79, h⟩ := el_some h;refine TO.fact (rdl_at (Rdl.gs (C := C) a47.could) M2 hia79 ea79) (fun hp=>?_);obtain ⟨pa79, hpa79, hva79⟩ := hp;refine zV R3 (hva79 ⟨rfl, rfl⟩ rfl rfl) (zV R3 (Val.load_e hpa79 M2 ⟨_, rfl, rfl⟩ rfl rfl) ?_);obtain ⟨c81, hc81⟩ := zY (a69 ≤ a79);refine zV R3 (Val.leq hc81 rfl rfl) (zP R6 (zN ?_));subst hc81;cases h;exact ⟨rfl, (), (sb .refl)⟩
       refine zO R3 (zO R3 (zO R3 (zO R3 (zO R3 (zO R3 (zO R3 (zO R3 (zP R6 (zN ?_)))))))));cases h;exact ⟨rfl, (), (sb .refl)⟩
      ·rintro x82 _ h;obtain ⟨rfl, h⟩ | ⟨rfl, h⟩ := zZ h
       ·refine zC rfl (zU rfl (zM R4 (zA R4 (zA R4 (zA R4 (zA R4 (zN (zR ?_))))))));cases h;exact ⟨ret_ne, ⟨ret_ne, ⟨ret_ne, ⟨ret_ne, ⟨ret_ne, ⟨rfl, _, rfl, ⟨(), rfl, (pk [98,98] rfl)⟩⟩⟩⟩⟩⟩⟩
       refine zD rfl (zK ?_);cases h;exact ⟨rfl, (), (sb .refl)⟩
     ·rintro _ _ h;refine zT rfl ?_;obtain ⟨hk84, h⟩ := chk_some h;refine zV R3 (Val.add rfl rfl hk84) (zM R4 (zN ?_));cases h;exact ⟨rfl, (), (sb .refl)⟩
    refine zD rfl (zE ?_);cases h;exact ⟨ex_ne, ⟨rfl, (), (sb (pk [1,98] rfl))⟩⟩
   ·rintro _ _ h;refine zT rfl ?_;obtain ⟨hk85, h⟩ := chk_some h;refine zV R3 (Val.add rfl rfl hk85) (zM R4 (zN ?_));cases h;exact ⟨rfl, (), (sb .refl)⟩
  refine zD rfl (zE ?_);cases h;exact ⟨ex_ne, ⟨rfl, (), (sb .refl)⟩⟩
 ·rintro _ _ h;refine zU rfl (zA R4 (zN ?_))
  show T _ _ _ _ _ _;apply T.join (r := r) (W := Unit) (fun j w => ⟨[], [(1, .ptr b1 0 3), (6, (GSo true encL leaves31).v)], .row b1 3 [iv (c_Book_Signed), v_c_Book_Gatherings, v_c_Items] :: C⟩) h
  ·intro j h;refine zU rfl (zF 2 R6 (zL 0 R3 R6 (zV R3 (Val.len_l h_c_Items M1 rfl rfl) (zM R4 (zN (zB ?_))))))
   show T _ _ _ _ _ _;apply T.iter (r := j) (W := Unit) (fun j w => ⟨[], [(1, .ptr b1 0 3), (6, (GSo true encL leaves31).v), (12, iv (j.1)), (87, v_c_Items), (88, iv ((c_Items.length : Int))), (89, iv (j.2))], .row b1 3 [iv (c_Book_Signed), v_c_Book_Gatherings, v_c_Items] :: C⟩) (w0 := ()) h
   ·exact (sb .refl)
   rintro ⟨doubts, x89⟩ _ a h;unfold P_c_open_L3 at h;dsimp only at h;dsimp only;refine zU rfl ?_;obtain ⟨c90, hc90⟩ := zY (x89 < (c_Items.length : Int));refine zV R3 (Val.lss hc90 rfl rfl) (zN (zS ?_));obtain ⟨rfl, hc90, h⟩ | ⟨rfl, hc90, h⟩ := zI hc90 h
   ·refine zC rfl (zK ?_)
    show T _ _ _ _ _ _;apply T.join (r := a) (W := Unit) (fun j w => ⟨[], [(1, .ptr b1 0 3), (6, (GSo true encL leaves31).v), (12, iv (j)), (87, v_c_Items), (88, iv ((c_Items.length : Int))), (89, iv (x89))], .row b1 3 [iv (c_Book_Signed), v_c_Book_Gatherings, v_c_Items] :: C⟩) h
    ·intro j h;refine zB (zU rfl (zM R4 ?_));obtain ⟨a92, hia92, ea92, h⟩ := el_some h;refine TO.fact (rdl_at h_c_Items M1 hia92 ea92) (fun hp=>?_);obtain ⟨pa92, hpa92, hva92⟩ := hp;refine zV R3 (hva92 ⟨rfl, rfl⟩ rfl rfl) (zV R3 (Val.load_es (c := [_]) hpa92 M1 ⟨⟨_, rfl, rfl⟩, rfl, by decide⟩ rfl rfl rfl) (zJ 1 [_] R7 (fun b14=>zA R4 (TO.eff0 rfl rfl (Eff.store_row (p := 0) (cv := [_]) (cells' := [_]) rfl rfl rfl rfl rfl rfl rfl rfl aG (by decide) rfl) ?_))));rintro _ rfl;refine zG (_::_::C) rfl (zN ?_)
     show T _ _ _ _ _ _;apply T.joinA (r := j) (W := Unit) (fun j w => ⟨[], [(1, .ptr b1 0 3), (6, (GSo true encL leaves31).v), (12, iv (j)), (13, iv (x89)), (87, v_c_Items), (88, iv ((c_Items.length : Int))), (89, iv (x89))], .row b14 1 [a92.could.v] :: .row b1 3 [iv (c_Book_Signed), v_c_Book_Gatherings, v_c_Items] :: C⟩) h
     ·intro j h;refine zU rfl (zF 0 R6 (zL 0 R3 R6 (zV R3 (Val.len_gs rfl rfl) ?_)));obtain ⟨c97, hc97⟩ := zY ((a92.could.l.length : Int) > 1);refine zV R3 (Val.gtr hc97 rfl rfl) (zN ?_);obtain ⟨rfl, hc97, h⟩ | ⟨rfl, hc97, h⟩ := zI hc97 h
      ·refine zC rfl (zT rfl (zM R4 ?_));obtain ⟨hk99, h⟩ := chk_some h;refine zV R3 (Val.add rfl rfl hk99) (zA R4 (zN ?_));cases h;exact ⟨rfl, (), (sb .refl)⟩
      refine zD rfl (zK ?_);cases h;exact ⟨rfl, (), (sb .refl)⟩
     ·rintro doubts_2 _ h;refine zU rfl (zM R4 ?_);obtain ⟨c101, hc101⟩ := zY (doubts_2 > 3);refine zV R3 (Val.gtr hc101 rfl rfl) (zN ?_);obtain ⟨rfl, hc101, h⟩ | ⟨rfl, hc101, h⟩ := zI hc101 h
      ·refine zC rfl (zU rfl (zM R4 (zA R4 (zA R4 (zA R4 (zA R4 (zN (zR ?_))))))));cases h;exact ⟨ret_ne, ⟨ret_ne, ⟨ret_ne, ⟨rfl, _, rfl, ⟨(), rfl, (pk [98,98] rfl)⟩⟩⟩⟩⟩
      refine zD rfl (zK ?_);cases h;exact ⟨rfl, (), (sb (pk [1,98] rfl))⟩
    ·rintro doubts_2 _ h;refine zT rfl ?_;obtain ⟨hk103, h⟩ := chk_some h;refine zV R3 (Val.add rfl rfl hk103) (zM R4 (zN ?_));cases h;exact ⟨rfl, (), (sb .refl)⟩
   refine zD rfl (zE ?_);cases h;exact ⟨ex_ne, ⟨rfl, (), (sb .refl)⟩⟩
  ·rintro _ _ h;refine zU rfl (zV R3 (vW 0 [_,_,_] R5 R4) (zM R4 (zV R3 (Val.buildC (cs := [_, _, _, _, _]) (vs := [(_, _), (_, _)]) (ws := [(_, [_, _, _]), (_, [_])]) rfl rfl (CellsL.cons rfl (CellsL.cons (GS.cells (GSo true encL leaves31)).1 CellsL.nil)) rfl) (zQ 5 [_,_,_,_,_] R7 (fun b107=>zA R4 (zN ?_))))))
   show T _ _ _ _ _ _;apply T.joinA (r := r) (W := AV) (fun j w => ⟨[], [(2, .ptr b107 0 5)], ownL true w encI j :: .row b107 5 [iv (c_Book_Signed), v_c_Book_Gatherings, v_c_Items, (GSo true encL leaves31).v, w] :: .row b1 3 [iv (c_Book_Signed), v_c_Book_Gatherings, v_c_Items] :: C⟩) h
   ·intro j h;refine zU rfl (zM R4 (zV R3 (Val.len_gs rfl rfl) (zM R4 (zN (zB (T.nilown (u := encI.u) ?_))))))
    show T _ _ _ _ _ _;apply T.iter (r := j) (W := AV) (fun j w => ⟨[], [(1, .ptr b1 0 3), (2, .ptr b107 0 5), (109, iv ((leaves31.length : Int))), (110, iv (j.1))], ownL true w encI j.2 :: .row b107 5 [iv (c_Book_Signed), v_c_Book_Gatherings, v_c_Items, (GSo true encL leaves31).v, w] :: .row b1 3 [iv (c_Book_Signed), v_c_Book_Gatherings, v_c_Items] :: C⟩) (w0 := nilS) h
    ·exact (sb .refl)
    rintro ⟨x110, b107_mates⟩ v5 a h;unfold P_c_open_L4 at h;dsimp only at h;dsimp only;refine zU rfl ?_;obtain ⟨c111, hc111⟩ := zY (x110 < (leaves31.length : Int));refine zV R3 (Val.lss hc111 rfl rfl) (zN (zS ?_));obtain ⟨rfl, hc111, h⟩ | ⟨rfl, hc111, h⟩ := zI hc111 h
    ·refine zC rfl (zK ?_)
     show T _ _ _ _ _ _;apply T.joinA (r := a) (W := AV) (fun j w => ⟨[], [(1, .ptr b1 0 3), (2, .ptr b107 0 5), (109, iv ((leaves31.length : Int))), (110, iv (x110))], ownL true w encI j :: .row b107 5 [iv (c_Book_Signed), v_c_Book_Gatherings, v_c_Items, (GSo true encL leaves31).v, w] :: .row b1 3 [iv (c_Book_Signed), v_c_Book_Gatherings, v_c_Items] :: C⟩) h
     ·intro j h;refine zB (zU rfl (zM R4 (zA R4 (zN (zU rfl (zF 0 R6 (zV R3 (vW 2 [_,_] R5 R4) (zM R4 ?_))))))));obtain ⟨⟨mate117, e117⟩, hr117, h⟩ := andx_some h;dsimp only at h;obtain ⟨g_3, hgg_3, hrg_3⟩ := Rdl.reif (hs := ownL true v5 encI b107_mates :: .row b107 5 [iv (c_Book_Signed), v_c_Book_Gatherings, v_c_Items, (GSo true encL leaves31).v, v5] :: .row b1 3 [iv (c_Book_Signed), v_c_Book_Gatherings, v_c_Items] :: C) h_c_Book_Gatherings M3 (ReifL.flat encG_tr);refine TO.call rfl rfl rfl rfl rfl (orcL rfl aD) (.cons (.agg (.cons .lit (.cons (hrg_3 _) .nil))) (.cons .lit .nil)) (sem_of (w_q_Mate c_Book_Signed g_3 x110 _ (by try rw [hgg_3]; exact hr117))) (zM R4 (zX R5 (zX R5 (zA R4 (zA R4 (zN ?_))))))
      show T _ _ _ _ _ _;apply T.joinA (r := j) (W := Unit) (fun j w => ⟨[], [(1, .ptr b1 0 3), (2, .ptr b107 0 5), (16, iv (j)), (109, iv ((leaves31.length : Int))), (110, iv (x110))], ownL true v5 encI b107_mates :: .row b107 5 [iv (c_Book_Signed), v_c_Book_Gatherings, v_c_Items, (GSo true encL leaves31).v, v5] :: .row b1 3 [iv (c_Book_Signed), v_c_Book_Gatherings, v_c_Items] :: C⟩) h
      ·intro j h;refine zU rfl (zM R4 ?_);obtain ⟨c121, hc121⟩ := zY (¬ e117 = 0);refine zV R3 (Val.neq hc121 rfl rfl) (zN ?_);obtain ⟨rfl, hc121, h⟩ | ⟨rfl, hc121, h⟩ := zI hc121 h
       ·refine zC rfl (zT rfl (zA R4 (zN ?_)));cases h;exact ⟨rfl, (), (sb .refl)⟩
       refine zD rfl (zK ?_);cases h;exact ⟨rfl, (), (sb .refl)⟩
      ·rintro m _ h;refine zT rfl (zM R4 (zM R4 (zV R3 (Val.nil_ptr rfl) (zF 4 R6 (zL 1 R3 R6 (zM R4 (TO.build1 (en := encI) (a := m) rfl rfl rfl ⟨rfl, rfl⟩ ⟨_, rfl, rfl⟩ (by decide) (by decide) rfl rfl (fun v128=>?_))))))));obtain ⟨hk129, h⟩ := chk_some h;refine TO.eff rfl rfl rfl (Eff.append_own (b := 8) (en := encI) (l := b107_mates) (l2 := [m]) (p := 1) (q := 0) ⟨rfl, rfl, rfl, ⟨_, rfl, rfl⟩, by decide, by decide⟩ rfl rfl rfl rfl rfl rfl (flat_ones _) (by decide) hk129) ?_;rintro v129 _ rfl;refine zG (_::_::_::_::C) rfl (zV R3 (Val.nil_ptr rfl) (zF 4 R6 (TO.fact (own_cellS (p := 1) rfl) (fun hot5=>TO.eff0 rfl rfl (Eff.store_row (p := 2) (cv := [_]) (cells' := [_, _, _, _, _]) rfl rfl rfl rfl rfl hot5.1 rfl rfl (by first | rfl | (simp [GS.one, hot5.2]; done)) (by decide) rfl) ?_))));rintro _ rfl;refine zG (_::_::_::_::C) rfl (zN ?_);cases h;exact ⟨rfl, v129, (sb (pk [1,1,1,98] rfl))⟩
     ·rintro b107_mates_2 v5_2 h;refine zT rfl ?_;obtain ⟨hk132, h⟩ := chk_some h;refine zV R3 (Val.add rfl rfl hk132) (zM R4 (zN ?_));cases h;exact ⟨rfl, v5_2, (sb .refl)⟩
    refine zD rfl (zE ?_);cases h;exact ⟨ex_ne, ⟨rfl, v5, (sb .refl)⟩⟩
   ·rintro b107_mates v5 h;refine zU rfl (zM R4 (zA R4 (zA R4 (zA R4 (zA R4 (zN (zR ?_)))))));cases h;exact ⟨rfl, _, rfl, ⟨(b107, v5), rfl, (pk [1,0,98] rfl)⟩⟩
end Go.Am.YthckcbfijdambaaGreat
end
section
namespace Go.Am
set_option linter.unusedVariables false
noncomputable def P_c_Lost_L2 (y12_3 : GS encL) (y9 : Int → Int) : (Int × (List Int)) → Option (Stp (Int × (List Int)) (List Int)) := fun (x15, l) =>
  if x15 < (y12_3.l.length : Int) then
    andx (
      if (y9 x15) = 0 then
        chk (l.length + [x15].length < 1000000000) (
          some (l ++ [x15]))
      else
        some l) fun l_2 =>
      chk (I64 (x15 + 1)) (
        some (Stp.ag ((x15 + 1), l_2)))
  else
    some (Stp.dn l)
noncomputable def P_c_Lost_L3 (times : Int) (l : List Int) : (Int × (List Int)) → Option (Stp (Int × (List Int)) (Stp (Int × (List Int)) (Int × (List Int)))) := fun (x25, many_2) =>
  if x25 < (l.length : Int) then
    el l x25 fun a27 =>
    el many_2 a27 fun a31 =>
    chk (I64 (a31 + 1)) (
      el many_2 a27 fun a34 =>
      chk (I64 (x25 + 1)) (
        some (Stp.ag ((x25 + 1), List.set many_2 a27.toNat (a31 + 1)))))
  else
    some (Stp.dn (Stp.ag ((times + 1), many_2)))
noncomputable def P_c_Lost_L1 (c_Book_Gatherings : List Gat) (c_Items : List Item) (y12_2 : Int) (y12_3 : GS encL) (y12_4 : List Int) : (Int × (List Int)) → (List Int) → Option (Stp (Int × (List Int)) (Int × (List Int))) := fun (times, many) t =>
  chk (I64 (times + 1)) (
    andx (
      andx (P_c_there y12_2 c_Book_Gatherings c_Items y12_3.l y12_4 t) fun y9 =>
        andx (
          iter (P_c_Lost_L2 y12_3 y9) (0, [])) fun l =>
          some l) fun l =>
      iter (P_c_Lost_L3 times l) (0, many))
noncomputable def P_c_Lost_L4 (times : Int) (many : List Int) : (Int × (List Int) × (List Int)) → Option (Stp (Int × (List Int) × (List Int)) ((List Int) × (List Int))) := fun (x38, sure, may) =>
  if x38 < (many.length : Int) then
    andx (
      el many x38 fun a41 =>
      andx (
        if a41 = times then
          chk (sure.length + [x38].length < 1000000000) (
            some (sure ++ [x38]))
        else
          some sure) fun sure_2 =>
        if a41 > 0 then
          chk (may.length + [x38].length < 1000000000) (
            some (sure_2, may ++ [x38]))
        else
          some (sure_2, may)) fun (sure_2, may_2) =>
      chk (I64 (x38 + 1)) (
        some (Stp.ag ((x38 + 1), sure_2, may_2)))
  else
    some (Stp.dn (sure, may))
noncomputable def P_c_Lost (c_Book_Signed : Int) (c_Book_Gatherings : List Gat) (c_Items : List Item) : Option ((List Int) × (List Int) × Int) :=
  andx (
    andx (P_c_open c_Book_Signed c_Book_Gatherings c_Items) fun y =>
      match y with
      | .inl (y12_2, y12_3, y12_4) =>
        chk (¬ y12_4 = 0) (
          some (y12_4, [], []))
      | .inr (y12_2, y12_3, y12_4, y12_5, y12_6, y12_7) =>
        chk (y12_7 = 0) (
          andx (
            some ()) fun _ =>
            andx (
              chk (0 ≤ (y12_3.l.length : Int) ∧ (y12_3.l.length : Int) ≤ 1000000000) (
                andx (
                  chk (c_Items.length ≤ 120 ∧ ∀ x ∈ c_Items, x.could.l.length ≤ 4) (
                    seqx (foldx (P_c_Lost_L1 c_Book_Gatherings c_Items y12_2 y12_3 y12_4) (truthsOf c_Items) (0, List.replicate (y12_3.l.length : Int).toNat (0 : Int))) fun (times, many) =>
                      some (times, many))) fun (times, many) =>
                  andx (
                    iter (P_c_Lost_L4 times many) (0, [], [])) fun (sure, may) =>
                    some (sure, may))) fun (sure, may) =>
              some (0, may, sure))) fun (y6, nl, nl_2) =>
    some (nl_2, nl, y6)
noncomputable def P_c_Loose_L2 (y12_4 : List Int) (y10 : Int → Int) : (Int × (List Int)) → Option (Stp (Int × (List Int)) (List Int)) := fun (x16, l) =>
  if x16 < (y12_4.length : Int) then
    andx (
      el y12_4 x16 fun a19 =>
      andx (
        if (y10 x16) > 0 then
          if a19 ≥ 0 then
            some (decide ((y10 a19) = 0))
          else
            some false
        else
          some false) fun x34 =>
        if x34 = true then
          chk (l.length + [x16].length < 1000000000) (
            some (l ++ [x16]))
        else
          some l) fun l_2 =>
      chk (I64 (x16 + 1)) (
        some (Stp.ag ((x16 + 1), l_2)))
  else
    some (Stp.dn l)
noncomputable def P_c_Loose_L3 (times : Int) (l : List Int) : (Int × (List Int)) → Option (Stp (Int × (List Int)) (Stp (Int × (List Int)) (Int × (List Int)))) := fun (x25, many_2) =>
  if x25 < (l.length : Int) then
    el l x25 fun a27 =>
    el many_2 a27 fun a31 =>
    chk (I64 (a31 + 1)) (
      el many_2 a27 fun a34 =>
      chk (I64 (x25 + 1)) (
        some (Stp.ag ((x25 + 1), List.set many_2 a27.toNat (a31 + 1)))))
  else
    some (Stp.dn (Stp.ag ((times + 1), many_2)))
noncomputable def P_c_Loose_L1 (c_Book_Gatherings : List Gat) (c_Items : List Item) (y12_2 : Int) (y12_3 : GS encL) (y12_4 : List Int) : (Int × (List Int)) → (List Int) → Option (Stp (Int × (List Int)) (Int × (List Int))) := fun (times, many) t =>
  chk (I64 (times + 1)) (
    andx (
      andx (P_c_there y12_2 c_Book_Gatherings c_Items y12_3.l y12_4 t) fun y10 =>
        andx (
          iter (P_c_Loose_L2 y12_4 y10) (0, [])) fun l =>
          some l) fun l =>
      iter (P_c_Loose_L3 times l) (0, many))
noncomputable def P_c_Loose_L4 (times : Int) (many : List Int) : (Int × (List Int) × (List Int)) → Option (Stp (Int × (List Int) × (List Int)) ((List Int) × (List Int))) := fun (x38, sure, may) =>
  if x38 < (many.length : Int) then
    andx (
      el many x38 fun a41 =>
      andx (
        if a41 = times then
          chk (sure.length + [x38].length < 1000000000) (
            some (sure ++ [x38]))
        else
          some sure) fun sure_2 =>
        if a41 > 0 then
          chk (may.length + [x38].length < 1000000000) (
            some (sure_2, may ++ [x38]))
        else
          some (sure_2, may)) fun (sure_2, may_2) =>
      chk (I64 (x38 + 1)) (
        some (Stp.ag ((x38 + 1), sure_2, may_2)))
  else
    some (Stp.dn (sure, may))
noncomputable def P_c_Loose (c_Book_Signed : Int) (c_Book_Gatherings : List Gat) (c_Items : List Item) : Option ((List Int) × (List Int) × Int) :=
  andx (
    andx (P_c_open c_Book_Signed c_Book_Gatherings c_Items) fun y =>
      match y with
      | .inl (y12_2, y12_3, y12_4) =>
        chk (¬ y12_4 = 0) (
          some (y12_4, [], []))
      | .inr (y12_2, y12_3, y12_4, y12_5, y12_6, y12_7) =>
        chk (y12_7 = 0) (
          andx (
            some ()) fun _ =>
            andx (
              chk (0 ≤ (y12_3.l.length : Int) ∧ (y12_3.l.length : Int) ≤ 1000000000) (
                andx (
                  chk (c_Items.length ≤ 120 ∧ ∀ x ∈ c_Items, x.could.l.length ≤ 4) (
                    seqx (foldx (P_c_Loose_L1 c_Book_Gatherings c_Items y12_2 y12_3 y12_4) (truthsOf c_Items) (0, List.replicate (y12_3.l.length : Int).toNat (0 : Int))) fun (times, many) =>
                      some (times, many))) fun (times, many) =>
                  andx (
                    iter (P_c_Loose_L4 times many) (0, [], [])) fun (sure, may) =>
                    some (sure, may))) fun (sure, may) =>
              some (0, may, sure))) fun (y6, nl, nl_2) =>
    some (nl_2, nl, y6)
end Go.Am
end
section
namespace Go.Am.YthckcbfijdambaaGreat
open Go.Am Go.RowKit
set_option linter.unusedVariables false
set_option linter.unusedSimpArgs false
set_option maxRecDepth 10000 in
theorem tf_c_Lost {k : Nat} (hk : 5 ≤ k) {C : List Thing} {c_Book_Signed : Int} {v_c_Book_Gatherings : AV} {c_Book_Gatherings : List Gat} {v_c_Items : AV} {c_Items : List Item} (ht_c_Book_Gatherings : RdT encG v_c_Book_Gatherings c_Book_Gatherings) (ht_c_Items : RdT encIt v_c_Items c_Items) {r : (List Int) × (List Int) × Int} (h : P_c_Lost c_Book_Signed c_Book_Gatherings c_Items = some r) :
  TF (EL k) 7 [.agg [iv (c_Book_Signed), v_c_Book_Gatherings, v_c_Items]] C (RepF (fun (w : AV × AV) => .tuple [w.1, w.2, iv r.2.2]) (fun (w : AV × AV) => ownL true w.1 encI r.1 :: ownL true w.2 encI r.2.1 :: C)) := by
 unfold P_c_Lost at h
 have h_c_Book_Gatherings : Rdl C encG v_c_Book_Gatherings c_Book_Gatherings := RdT.rdl ht_c_Book_Gatherings
 have h_c_Items : Rdl C encIt v_c_Items c_Items := RdT.rdl ht_c_Items;refine TF.enter (fn := Go.Proofs.Tryz.f7) rfl rfl rfl rfl rfl (zU rfl (zQ 3 [_,_,_] R7 (fun b1=>zA R4 (zA R4 (zA R4 (zN (zU rfl (zV R3 (vW 0 [_,_,_] R5 R4) ?_))))))));refine TO.callJ (W := AV × AV) (fun (j : Int × (List Int) × (List Int)) (w : AV × AV) => .tuple [w.2, w.1, iv (j.1)]) (fun (j : Int × (List Int) × (List Int)) (w : AV × AV) => ownL true w.1 encI j.2.1 :: ownL true w.2 encI j.2.2 :: .row b1 3 [iv (c_Book_Signed), v_c_Book_Gatherings, v_c_Items] :: C) h rfl rfl rfl rfl rfl rfl (orcN rfl) ?_ ?_
 ·intro j h;refine TF.enter (fn := Go.Proofs.Tryz.f34) rfl rfl rfl rfl rfl (zU rfl (zQ 3 [_,_,_] R7 (fun b2=>zQ 1 [_] R7 (fun b3=>zA R4 (zA R4 (zA R4 (zN (zU rfl (zV R3 (vW 1 [_,_,_] R5 R4) ?_)))))))));obtain ⟨y12, hr12, h⟩ := andx_some h;cases y12 with
  | inl y12 =>
   obtain ⟨y12_2, y12_3, y12_4⟩ := y12;dsimp only at h;obtain ⟨hkn12, h⟩ := chk_some h;refine TO.callT (first := []) (cap := []) (vs := [.agg [iv (c_Book_Signed), v_c_Book_Gatherings, v_c_Items]]) rfl rfl rfl rfl rfl rfl (orcN rfl) (tf_c_open aD (Rdl.mono h_c_Book_Gatherings M3) (Rdl.mono h_c_Items M3) hr12) ?_;rintro _;refine zG (_::_::_::C) rfl (zM R4 (zX R5 (zX R5 (zX R5 (zX R5 (zJ 1 [_] R7 (fun b7=>TO.eff0 rfl rfl (Eff.store_row (p := 0) (cv := [_]) (cells' := [_]) rfl rfl rfl rfl rfl rfl rfl rfl aG (by decide) rfl) ?_)))))));rintro _ rfl;refine zG (_::_::_::_::C) rfl (zA R4 (zA R4 (zA R4 (zN (zS (zU rfl (zM R4 ?_)))))));obtain ⟨c18, hc18⟩ := zY (¬ y12_4 = 0);refine zV R3 (Val.neq hc18 rfl rfl) (zN ?_);obtain rfl : c18 = true := hc18.trans (decide_eq_true hkn12);refine zC rfl (zU rfl (zM R4 (zA R4 (zA R4 (zA R4 (zN (T.nilown (u := encI.u) (T.nilown (u := encI.u) (zR ?_)))))))));cases h;exact ⟨rfl, _, rfl, ⟨(nilS, nilS), rfl, (pk [0,0,3,98,98,98] rfl)⟩⟩
  | inr y12 =>
   obtain ⟨y12_2, y12_3, y12_4, y12_5, y12_6, y12_7⟩ := y12;dsimp only at h;obtain ⟨hkn12, h⟩ := chk_some h;refine TO.callT (first := []) (cap := []) (vs := [.agg [iv (c_Book_Signed), v_c_Book_Gatherings, v_c_Items]]) rfl rfl rfl rfl rfl rfl (orcN rfl) (tf_c_open aD (Rdl.mono h_c_Book_Gatherings M3) (Rdl.mono h_c_Items M3) hr12) ?_;rintro ⟨w12, w12_2⟩;refine zG (_::_::_::_::_::C) rfl (zM R4 (zX R5 (zX R5 (zX R5 (zX R5 (zJ 1 [_] R7 (fun b7=>TO.eff0 rfl rfl (Eff.store_row (p := 0) (cv := [_]) (cells' := [_]) rfl rfl rfl rfl rfl rfl rfl rfl aG (by decide) rfl) ?_)))))));rintro _ rfl;refine zG (_::_::_::_::_::_::C) rfl (zA R4 (zA R4 (zA R4 (zN (zS (zU rfl (zM R4 ?_)))))));obtain ⟨c18, hc18⟩ := zY (¬ y12_7 = 0);refine zV R3 (Val.neq hc18 rfl rfl) (zN ?_);obtain rfl : c18 = false := hc18.trans (decide_eq_false (fun x => x hkn12));refine zD rfl (zK (zS (T.drawE (l1 := [0, 2, 3, 4, 5, 6, 7]) (l2 := [1, 8, 9, 10, 11, 12, 13]) (by kernel_rfl) (by kernel_rfl) (yR R4 (vR (p := 0) R6) (yL R4 (Val.makeFunc rfl rfl) (yR R4 (vR (p := 0) R6) (yL R4 (Val.nil_ptr rfl) (yL R4 (Val.faddr_ptr (fo := 3) rfl rfl rfl) (yR R4 (vR (p := 1) R6) (yR R4 (Val.len_gs rfl rfl) (TD1.over (fun v => sameC_refl v) (all_cons (⟨_, rfl, (Val.len_gs rfl rfl)⟩) (all_cons (⟨_, rfl, (vR (p := 1) R6)⟩) (all_cons (⟨_, rfl, (vR (p := 0) R6)⟩) (all_cons (⟨_, rfl, (vR (p := 0) R6)⟩) all_nil)))) ?_)))))))))));refine TD2.callJ (fun v => sameC_refl v) (W := Nat) (fun (j : Unit) (w : Nat) => .func 74 [] [.ptr w 0 1]) (fun (j : Unit) (w : Nat) => .row w 1 [.ptr w12 0 5] :: .row b7 1 [.ptr w12 0 5] :: .row w12 5 [iv (y12_2), v_c_Book_Gatherings, v_c_Items, y12_3.v, w12_2] :: ownL true w12_2 encI y12_4 :: .row b3 1 [.func 35 [] []] :: .row b2 3 [iv (c_Book_Signed), v_c_Book_Gatherings, v_c_Items] :: .row b1 3 [iv (c_Book_Signed), v_c_Book_Gatherings, v_c_Items] :: C) h rfl (by decide) rfl rfl rfl rfl rfl (orcN rfl) ?_ ?_
   ·intro j h;refine TF.enter (fn := Go.Proofs.Tryz.f54) rfl rfl rfl rfl rfl (zU rfl (zQ 1 [_] R7 (fun b1_2=>zA R4 (zN (zU rfl (zV R3 (Val.makeFunc rfl rfl) (zA R4 (zN (zR ?_)))))))));cases h;exact ⟨rfl, _, rfl, ⟨b1_2, rfl, .refl⟩⟩
   ·rintro _ id10 h;refine ⟨(all_cons (.inr ⟨_, rfl, (Val.len_gs rfl rfl)⟩) (all_cons (.inr ⟨_, rfl, (vR (p := 2) R6)⟩) (all_cons (.inr ⟨_, rfl, (vR (p := 1) R6)⟩) (all_cons (.inl (by kernel_rfl)) all_nil)))), all_nil, ?_⟩;refine yG (_::_::_::_::_::_::_::C) rfl ?_;refine TD2.callJ (fun v => sameC_refl v) (W := AV × AV) (fun (j : (List Int) × (List Int)) (w : AV × AV) => .tuple [w.1, w.2]) (fun (j : (List Int) × (List Int)) (w : AV × AV) => ownL true w.1 encI j.1 :: ownL true w.2 encI j.2 :: .row id10 1 [.ptr w12 0 5] :: .row b7 1 [.ptr w12 0 5] :: .row w12 5 [iv (y12_2), v_c_Book_Gatherings, v_c_Items, y12_3.v, w12_2] :: ownL true w12_2 encI y12_4 :: .row b3 1 [.func 35 [] []] :: .row b2 3 [iv (c_Book_Signed), v_c_Book_Gatherings, v_c_Items] :: .row b1 3 [iv (c_Book_Signed), v_c_Book_Gatherings, v_c_Items] :: C) h rfl (by decide) rfl rfl rfl rfl rfl (orcN rfl) ?_ ?_
    ·intro j h;refine TF.enterG (fn := Go.Proofs.Tryz.f62) rfl rfl rfl rfl rfl (zU rfl (zQ 1 [_] R7 (fun b4=>zA R4 (zA R4 (zN (zU rfl (zM R4 ?_)))))));obtain ⟨hk16, h⟩ := chk_some h;refine TO.makeE (en := encI) (0) (b := 8) rfl rfl rfl ⟨rfl, rfl⟩ rfl rfl rfl rfl rfl hk16 (by decide) (fun v16=>zJ 1 [_] R7 (fun b8=>zJ 1 [_] R7 (fun b9=>TO.fact (own_cellS (p := 2) rfl) (fun hot12=>TO.eff0 rfl rfl (Eff.store_row (p := 1) (cv := [_]) (cells' := [_]) rfl rfl rfl rfl rfl hot12.1 rfl rfl (by first | rfl | (simp [GS.one, hot12.2]; done)) (by decide) rfl) ?_))));rintro _ rfl;refine zG (_::_::_::_::_::_::_::_::_::_::_::C) rfl (TO.eff0 rfl rfl (Eff.store_row (p := 0) (cv := [_]) (cells' := [_]) rfl rfl rfl rfl rfl rfl rfl rfl aG (by decide) rfl) ?_);rintro _ rfl;refine zG (_::_::_::_::_::_::_::_::_::_::_::C) rfl (zN ?_)
     show T _ _ _ _ _ _;apply T.joinA (r := j) (W := Nat) (fun j w => ⟨[w], [(6, nilS), (7, nilS), (8, .ptr b8 0 1), (9, .ptr b9 0 1)], .obj w (.dfr true) :: .row b9 1 [iv (j.1)] :: .row b8 1 [v16] :: ownL false v16 encI j.2 :: .row b4 1 [.func 63 [] [.ptr b3 0 1, .ptr b7 0 1]] :: .row id10 1 [.ptr w12 0 5] :: .row b7 1 [.ptr w12 0 5] :: .row w12 5 [iv (y12_2), v_c_Book_Gatherings, v_c_Items, y12_3.v, w12_2] :: ownL true w12_2 encI y12_4 :: .row b3 1 [.func 35 [] []] :: .row b2 3 [iv (c_Book_Signed), v_c_Book_Gatherings, v_c_Items] :: .row b1 3 [iv (c_Book_Signed), v_c_Book_Gatherings, v_c_Items] :: C⟩) h
     ·intro j h;refine zU rfl (zM R4 (zN (zB ?_)));obtain ⟨hkR1, h⟩ := chk_some h
      show T _ _ _ _ _ _;apply T.rangeP (r := j) (W := Unit) (w0 := ()) ArgT (fun (j : Int × (List Int)) (w : Unit) => [.row b9 1 [iv (j.1)], .row b8 1 [v16], ownL false v16 encI j.2]) (.row b4 1 [.func 63 [] [.ptr b3 0 1, .ptr b7 0 1]] :: .row id10 1 [.ptr w12 0 5] :: .row b7 1 [.ptr w12 0 5] :: .row w12 5 [iv (y12_2), v_c_Book_Gatherings, v_c_Items, y12_3.v, w12_2] :: ownL true w12_2 encI y12_4 :: .row b3 1 [.func 35 [] []] :: .row b2 3 [iv (c_Book_Signed), v_c_Book_Gatherings, v_c_Items] :: .row b1 3 [iv (c_Book_Signed), v_c_Book_Gatherings, v_c_Items] :: C) h
      ·rfl
      ·rfl
      ·rfl
      ·exact .refl
      ·exact tr_yields (List.mem_of_getElem? (i := 1) rfl) (List.mem_of_getElem? (i := 3) rfl) (Rdl.mono h_c_Items M8) hkR1
      ·rintro l1 d ⟨times, many⟩ _ t vs G F1 ans hmem harg hD hG h;unfold P_c_Lost_L1 at h;dsimp only at h;obtain ⟨v_t, rfl, rfl⟩ := harg
       have h_t : Rdl F1 encI v_t t := .inr ⟨false, hG _ (by simp)⟩
       have hCF : ∀ x ∈ C, x ∈ F1 := fun x hx => hD x (memS M7 x hx)
       replace h_c_Book_Gatherings := Rdl.mono h_c_Book_Gatherings hCF;replace h_c_Items := Rdl.mono h_c_Items hCF
       have hu1_t8 : Rdl F1 encI w12_2 y12_4 := .inr ⟨true, (hD _ (List.mem_of_getElem? (i := 4) rfl))⟩
       have hu1_t7 : Thing.row w12 5 [iv (y12_2), v_c_Book_Gatherings, v_c_Items, y12_3.v, w12_2] ∈ F1 := (hD _ (List.mem_of_getElem? (i := 3) rfl))
       have hu1_t3 : Thing.row b3 1 [.func 35 [] []] ∈ F1 := (hD _ (List.mem_of_getElem? (i := 5) rfl))
       have hu1_t2 : Thing.row b2 3 [iv (c_Book_Signed), v_c_Book_Gatherings, v_c_Items] ∈ F1 := (hD _ (List.mem_of_getElem? (i := 6) rfl))
       have hu1_t1 : Thing.row b1 3 [iv (c_Book_Signed), v_c_Book_Gatherings, v_c_Items] ∈ F1 := (hD _ (List.mem_of_getElem? (i := 7) rfl))
       have hu1_t10 : Thing.row id10 1 [.ptr w12 0 5] ∈ F1 := (hD _ (List.mem_of_getElem? (i := 1) rfl))
       have hu1_t9 : Thing.row b7 1 [.ptr w12 0 5] ∈ F1 := (hD _ (List.mem_of_getElem? (i := 2) rfl))
       have hu1_t11 : Thing.row b4 1 [.func 63 [] [.ptr b3 0 1, .ptr b7 0 1]] ∈ F1 := (hD _ (List.mem_of_getElem? (i := 0) rfl));refine ⟨_, rfl, fun LR1 LB1 hLB1 => ?_⟩;refine T.things (hs' := LR1 :: .row b9 1 [iv (times)] :: .row b8 1 [v16] :: ownL false v16 encI many :: F1) rfl (zT rfl (zA R4 (zN ?_)));refine ⟨rfl, 0, rfl, ?_⟩;refine T.things (hs' := LB1 :: .row b9 1 [iv (times)] :: .row b8 1 [v16] :: ownL false v16 encI many :: F1) rfl (zB (zU rfl (zL 1 R3 R6 ?_)));obtain ⟨hk20, h⟩ := chk_some h;refine zV R3 (Val.add rfl rfl hk20) (TO.eff0 rfl rfl (Eff.store_row (p := 1) (cv := [_]) (cells' := [_]) rfl rfl rfl rfl rfl rfl rfl rfl aG (by decide) rfl) ?_);rintro _ rfl;refine zG (_::_::_::_::F1) rfl (zN (zU rfl (zV R3 (Val.load_rowM hu1_t11 M4 ⟨_, rfl, rfl⟩ rfl rfl rfl) (zM R4 (TO.callIn rfl rfl rfl rfl rfl rfl (orcN rfl) (TF.enter (fn := Go.Proofs.Tryz.f63) rfl rfl rfl rfl rfl (zU rfl (zA R4 (zN (zU rfl (zV R3 (Val.load_rowM hu1_t3 M4 ⟨_, rfl, rfl⟩ rfl rfl rfl) (zV R3 (Val.load_rowM hu1_t9 M4 ⟨_, rfl, rfl⟩ rfl rfl rfl) (zM R4 ?_)))))))))))));refine TO.callJ (W := AV) (fun (j : (List Int)) (w : AV) => w) (fun (j : (List Int)) (w : AV) => ownL true w encI j :: LB1 :: .row b9 1 [iv ((times + 1))] :: .row b8 1 [v16] :: ownL false v16 encI many :: F1) h rfl rfl rfl rfl rfl rfl (orcN rfl) ?_ ?_
       ·intro j h;refine TF.enter (fn := Go.Proofs.Tryz.f35) rfl rfl rfl rfl rfl (zU rfl (zA R4 (zN (zU rfl (zM R4 (zM R4 ?_))))));obtain ⟨y9, hr9, h⟩ := andx_some h;refine TO.callT (first := []) (cap := []) (vs := [.ptr w12 0 5, v_t]) rfl rfl rfl rfl rfl rfl (orcN rfl) (tf_c_there aD (Rdl.mono h_c_Book_Gatherings M4) (Rdl.mono h_c_Items M4) (Rdl.mono (Rdl.gs (C := F1) y12_3) M4) (Rdl.mono hu1_t8 M4) (M4 _ hu1_t7) (Rdl.mono h_t M4) hr9) ?_;rintro w9;refine zG (_::_::_::_::_::F1) rfl (zA R4 (zN ?_))
        show T _ _ _ _ _ _;apply T.joinA (r := j) (W := AV) (fun j w => ⟨[], [(4, w)], ownL true w encI j :: .cnt w9 KInt (cntI y9) [] :: LB1 :: .row b9 1 [iv ((times + 1))] :: .row b8 1 [v16] :: ownL false v16 encI many :: F1⟩) h
        ·intro j h;refine zU rfl (zM R4 (zV R3 (Val.nil_ptr rfl) (zF 3 R6 (zV R3 (Val.load_rowM hu1_t7 M5 ⟨_, rfl, rfl⟩ rfl rfl rfl) (zV R3 (Val.len_gs rfl rfl) (zM R4 (zN (zB (T.nilown (u := encI.u) ?_)))))))))
         show T _ _ _ _ _ _;apply T.iter (r := j) (W := AV) (fun j w => ⟨[], [(4, w), (5, .map w9), (14, iv ((y12_3.l.length : Int))), (15, iv (j.1))], ownL true w encI j.2 :: .cnt w9 KInt (cntI y9) [] :: LB1 :: .row b9 1 [iv ((times + 1))] :: .row b8 1 [v16] :: ownL false v16 encI many :: F1⟩) (w0 := nilS) h
         ·exact (sb .refl)
         rintro ⟨x15, l⟩ v16_2 a h;unfold P_c_Lost_L2 at h;dsimp only at h;dsimp only;refine zU rfl ?_;obtain ⟨c16, hc16⟩ := zY (x15 < (y12_3.l.length : Int));refine zV R3 (Val.lss hc16 rfl rfl) (zN (zS ?_));obtain ⟨rfl, hc16, h⟩ | ⟨rfl, hc16, h⟩ := zI hc16 h
         ·refine zC rfl (zK ?_)
          show T _ _ _ _ _ _;apply T.joinA (r := a) (W := AV) (fun j w => ⟨[], [(4, w), (5, .map w9), (14, iv ((y12_3.l.length : Int))), (15, iv (x15))], ownL true w encI j :: .cnt w9 KInt (cntI y9) [] :: LB1 :: .row b9 1 [iv ((times + 1))] :: .row b8 1 [v16] :: ownL false v16 encI many :: F1⟩) h
          ·intro j h;refine zB (zU rfl (zM R4 (zA R4 (zN (zU rfl (zM R4 (zM R4 (zV R3 (Val.lookupI (p := 1) rfl rfl key_ty3 rfl rfl rfl) ?_))))))));obtain ⟨c21, hc21⟩ := zY ((y9 x15) = 0);refine zV R3 (Val.eql hc21 rfl rfl) (zN ?_);obtain ⟨rfl, hc21, h⟩ | ⟨rfl, hc21, h⟩ := zI hc21 h
           ·refine zC rfl (zT rfl (zM R4 (zM R4 (TO.build1 (en := encI) (a := x15) rfl rfl rfl ⟨rfl, rfl⟩ ⟨_, rfl, rfl⟩ (by decide) (by decide) rfl rfl (fun v24=>?_)))));obtain ⟨hk25, h⟩ := chk_some h;refine TO.eff rfl rfl rfl (Eff.append_own (b := 8) (en := encI) (l := l) (l2 := [x15]) (p := 1) (q := 0) ⟨rfl, rfl, rfl, ⟨_, rfl, rfl⟩, by decide, by decide⟩ rfl rfl rfl rfl rfl rfl (flat_ones _) (by decide) hk25) ?_;rintro v25 _ rfl;refine zG (_::_::_::_::_::_::_::F1) rfl (zA R4 (zN ?_));cases h;exact ⟨rfl, v25, (sb (pk [1,1,1,1,1,1,98] rfl))⟩
           refine zD rfl (zK ?_);cases h;exact ⟨rfl, v16_2, (sb .refl)⟩
          ·rintro l_2 v16_3 h;refine zT rfl ?_;obtain ⟨hk26, h⟩ := chk_some h;refine zV R3 (Val.add rfl rfl hk26) (zM R4 (zN ?_));cases h;exact ⟨rfl, v16_3, (sb .refl)⟩
         refine zD rfl (zE ?_);cases h;exact ⟨ex_ne, ⟨rfl, v16_2, (sb .refl)⟩⟩
        ·rintro l v16_2 h;refine zU rfl (zM R4 (zA R4 (zN (zR ?_))));cases h;exact ⟨rfl, _, rfl, ⟨v16_2, rfl, (pk [0,1,1,1,1,98] rfl)⟩⟩
       ·rintro l v18 h;refine zG (_::_::_::_::_::F1) rfl (zA R4 (zN (zR ?_)));refine ⟨rfl, _, rfl, ?_⟩;refine zV R3 (Val.len_own (p := 0) rfl rfl rfl) (zM R4 (zN (zB ?_)))
        show T _ _ _ _ _ _;apply T.iter (r := ans) (W := Unit) (fun j w => ⟨[], [(8, .ptr b8 0 1), (23, v18), (24, iv ((l.length : Int))), (25, iv (j.1))], ownL true v18 encI l :: LB1 :: .row b9 1 [iv ((times + 1))] :: .row b8 1 [v16] :: ownL false v16 encI j.2 :: F1⟩) (w0 := ()) h
        ·exact (sb .refl)
        rintro ⟨x25, many_2⟩ _ a h;unfold P_c_Lost_L3 at h;dsimp only at h;dsimp only;refine zU rfl ?_;obtain ⟨c26, hc26⟩ := zY (x25 < (l.length : Int));refine zV R3 (Val.lss hc26 rfl rfl) (zN (zS ?_));obtain ⟨rfl, hc26, h⟩ | ⟨rfl, hc26, h⟩ := zI hc26 h
        ·refine zC rfl (zK (zS (zB (zU rfl ?_))));obtain ⟨a27, hia27, ea27, h⟩ := el_some h;refine TO.fact (own_at (en := encI) (p := 0) rfl hia27) (fun hp=>?_);obtain ⟨ida27, ata27⟩ := hp;refine zV R3 (Val.iaddr_at (en := encI) ata27 ⟨rfl, rfl⟩ rfl rfl hia27) (zV R3 (Val.load_ownL (en := encI) (p := 0) (j := 0) rfl ata27 ⟨_, rfl, rfl⟩ rfl ea27 rfl) (zA R4 (zN (zT rfl (zL 3 R3 R6 (zM R4 ?_))))));obtain ⟨a31, hia31, ea31, h⟩ := el_some h;refine TO.fact (own_at (en := encI) (p := 4) rfl hia31) (fun hp=>?_);obtain ⟨ida31, ata31⟩ := hp;refine zV R3 (Val.iaddr_at (en := encI) ata31 ⟨rfl, rfl⟩ rfl rfl hia31) (zV R3 (Val.load_ownL (en := encI) (p := 4) (j := 0) rfl ata31 ⟨_, rfl, rfl⟩ rfl ea31 rfl) ?_);obtain ⟨hk33, h⟩ := chk_some h;refine zV R3 (Val.add rfl rfl hk33) ?_;obtain ⟨a34, hia34, ea34, h⟩ := el_some h;refine TO.fact (own_at (en := encI) (p := 4) rfl hia34) (fun hp=>?_);obtain ⟨ida34, ata34⟩ := hp;refine zV R3 (Val.iaddr_at (en := encI) ata34 ⟨rfl, rfl⟩ rfl rfl hia34) (TO.eff0 rfl rfl (Eff.store_ownE (en := encI) (p := 4) (a := a34) (a' := (a31 + 1)) (j := 0) (cv := [_]) rfl ata34 ea34 rfl rfl (by decide) rfl rfl rfl rfl aG rfl) ?_);rintro _ rfl;refine zG (_::_::_::_::_::F1) rfl (zN (zT rfl ?_));obtain ⟨hk35, h⟩ := chk_some h;refine zV R3 (Val.add rfl rfl hk35) (zM R4 (zN ?_));cases h;exact ⟨rfl, (), (sb .refl)⟩
        refine zD rfl (zE ?_);cases h;exact ⟨ex_ne, ⟨rfl, (), (pk [1,1,1,1,98] rfl)⟩⟩
      ·rintro d ⟨times, many⟩ _ h;dsimp only at h;cases h;exact ⟨rfl, d, (sb .refl)⟩
     ·rintro ⟨times, many⟩ iddfr1 h;dsimp only at h;dsimp only
      show T _ _ _ _ _ _;apply T.joinA (r := j) (W := AV × AV) (fun j w => ⟨[iddfr1], [(6, w.1), (7, w.2)], ownL true w.1 encI j.1 :: ownL true w.2 encI j.2 :: .obj iddfr1 (.dfr true) :: .row b9 1 [iv (times)] :: ownL false v16 encI many :: .row id10 1 [.ptr w12 0 5] :: .row b7 1 [.ptr w12 0 5] :: .row w12 5 [iv (y12_2), v_c_Book_Gatherings, v_c_Items, y12_3.v, w12_2] :: ownL true w12_2 encI y12_4 :: .row b3 1 [.func 35 [] []] :: .row b2 3 [iv (c_Book_Signed), v_c_Book_Gatherings, v_c_Items] :: .row b1 3 [iv (c_Book_Signed), v_c_Book_Gatherings, v_c_Items] :: C⟩) h
      ·intro j h;refine zU rfl (zL 2 R3 R6 (zV R3 (Val.len_own (p := 3) rfl rfl rfl) (zM R4 (zN (zB (T.nilown (u := encI.u) (T.nilown (u := encI.u) ?_)))))))
       show T _ _ _ _ _ _;apply T.iter (r := j) (W := AV × AV) (fun j w => ⟨[iddfr1], [(6, w.1), (7, w.2), (9, .ptr b9 0 1), (36, v16), (37, iv ((many.length : Int))), (38, iv (j.1))], ownL true w.1 encI j.2.1 :: ownL true w.2 encI j.2.2 :: .obj iddfr1 (.dfr true) :: .row b9 1 [iv (times)] :: ownL false v16 encI many :: .row id10 1 [.ptr w12 0 5] :: .row b7 1 [.ptr w12 0 5] :: .row w12 5 [iv (y12_2), v_c_Book_Gatherings, v_c_Items, y12_3.v, w12_2] :: ownL true w12_2 encI y12_4 :: .row b3 1 [.func 35 [] []] :: .row b2 3 [iv (c_Book_Signed), v_c_Book_Gatherings, v_c_Items] :: .row b1 3 [iv (c_Book_Signed), v_c_Book_Gatherings, v_c_Items] :: C⟩) (w0 := (nilS, nilS)) h
       ·exact (sb (pk [0,0,0,0,1,2,2,2,2,2,2,2,98,98] rfl))
       rintro ⟨x38, sure, may⟩ ⟨v20, v19⟩ a h;unfold P_c_Lost_L4 at h;dsimp only at h;dsimp only;refine zU rfl ?_;obtain ⟨c39, hc39⟩ := zY (x38 < (many.length : Int));refine zV R3 (Val.lss hc39 rfl rfl) (zN (zS ?_));obtain ⟨rfl, hc39, h⟩ | ⟨rfl, hc39, h⟩ := zI hc39 h
       ·refine zC rfl (zK ?_)
        show T _ _ _ _ _ _;apply T.joinA (r := a) (W := AV × AV) (fun j w => ⟨[iddfr1], [(6, w.1), (7, w.2), (9, .ptr b9 0 1), (36, v16), (37, iv ((many.length : Int))), (38, iv (x38))], ownL true w.1 encI j.1 :: ownL true w.2 encI j.2 :: .obj iddfr1 (.dfr true) :: .row b9 1 [iv (times)] :: ownL false v16 encI many :: .row id10 1 [.ptr w12 0 5] :: .row b7 1 [.ptr w12 0 5] :: .row w12 5 [iv (y12_2), v_c_Book_Gatherings, v_c_Items, y12_3.v, w12_2] :: ownL true w12_2 encI y12_4 :: .row b3 1 [.func 35 [] []] :: .row b2 3 [iv (c_Book_Signed), v_c_Book_Gatherings, v_c_Items] :: .row b1 3 [iv (c_Book_Signed), v_c_Book_Gatherings, v_c_Items] :: C⟩) h
        ·intro j h;refine zB (zU rfl (zM R4 ?_));obtain ⟨a41, hia41, ea41, h⟩ := el_some h;refine TO.fact (own_at (en := encI) (p := 4) rfl hia41) (fun hp=>?_);obtain ⟨ida41, ata41⟩ := hp;refine zV R3 (Val.iaddr_at (en := encI) ata41 ⟨rfl, rfl⟩ rfl rfl hia41) (zV R3 (Val.load_ownL (en := encI) (p := 4) (j := 0) rfl ata41 ⟨_, rfl, rfl⟩ rfl ea41 rfl) (zA R4 (zA R4 (zN ?_))))
         show T _ _ _ _ _ _;apply T.joinA (r := j) (W := AV) (fun j w => ⟨[iddfr1], [(6, w), (7, v19), (9, .ptr b9 0 1), (13, iv (x38)), (14, iv (a41)), (36, v16), (37, iv ((many.length : Int))), (38, iv (x38))], ownL true w encI j :: ownL true v19 encI may :: .obj iddfr1 (.dfr true) :: .row b9 1 [iv (times)] :: ownL false v16 encI many :: .row id10 1 [.ptr w12 0 5] :: .row b7 1 [.ptr w12 0 5] :: .row w12 5 [iv (y12_2), v_c_Book_Gatherings, v_c_Items, y12_3.v, w12_2] :: ownL true w12_2 encI y12_4 :: .row b3 1 [.func 35 [] []] :: .row b2 3 [iv (c_Book_Signed), v_c_Book_Gatherings, v_c_Items] :: .row b1 3 [iv (c_Book_Signed), v_c_Book_Gatherings, v_c_Items] :: C⟩) h
         ·intro j h;refine zU rfl (zM R4 (zL 3 R3 R6 ?_));obtain ⟨c45, hc45⟩ := zY (a41 = times);refine zV R3 (Val.eql hc45 rfl rfl) (zN ?_);obtain ⟨rfl, hc45, h⟩ | ⟨rfl, hc45, h⟩ := zI hc45 h
          ·refine zC rfl (zT rfl (zM R4 (zM R4 (TO.build1 (en := encI) (a := x38) rfl rfl rfl ⟨rfl, rfl⟩ ⟨_, rfl, rfl⟩ (by decide) (by decide) rfl rfl (fun v48=>?_)))));obtain ⟨hk49, h⟩ := chk_some h;refine TO.eff rfl rfl rfl (Eff.append_own (b := 8) (en := encI) (l := sure) (l2 := [x38]) (p := 1) (q := 0) ⟨rfl, rfl, rfl, ⟨_, rfl, rfl⟩, by decide, by decide⟩ rfl rfl rfl rfl rfl rfl (flat_ones _) (by decide) hk49) ?_;rintro v49 _ rfl;refine zG (_::_::_::_::_::_::_::_::_::_::_::_::_::C) rfl (zA R4 (zN ?_));cases h;exact ⟨rfl, v49, (sb (pk [1,1,1,1,1,1,1,1,1,1,1,1,98] rfl))⟩
          refine zD rfl (zK ?_);cases h;exact ⟨rfl, v20, (sb .refl)⟩
         ·rintro sure_2 v20_2 h;refine zU rfl (zM R4 ?_);obtain ⟨c51, hc51⟩ := zY (a41 > 0);refine zV R3 (Val.gtr hc51 rfl rfl) (zN ?_);obtain ⟨rfl, hc51, h⟩ | ⟨rfl, hc51, h⟩ := zI hc51 h
          ·refine zC rfl (zT rfl (zM R4 (zM R4 (TO.build1 (en := encI) (a := x38) rfl rfl rfl ⟨rfl, rfl⟩ ⟨_, rfl, rfl⟩ (by decide) (by decide) rfl rfl (fun v54=>?_)))));obtain ⟨hk55, h⟩ := chk_some h;refine TO.eff rfl rfl rfl (Eff.append_own (b := 8) (en := encI) (l := may) (l2 := [x38]) (p := 2) (q := 0) ⟨rfl, rfl, rfl, ⟨_, rfl, rfl⟩, by decide, by decide⟩ rfl rfl rfl rfl rfl rfl (flat_ones _) (by decide) hk55) ?_;rintro v55 _ rfl;refine zG (_::_::_::_::_::_::_::_::_::_::_::_::_::C) rfl (zA R4 (zN ?_));cases h;exact ⟨rfl, (v20_2, v55), (sb (pk [1,1,1,1,1,1,1,1,1,1,1,1,98] rfl))⟩
          refine zD rfl (zK ?_);cases h;exact ⟨rfl, (v20_2, v19), (sb .refl)⟩
        ·rintro ⟨sure_2, may_2⟩ ⟨v20_2, v19_2⟩ h;dsimp only at h;dsimp only;refine zT rfl ?_;obtain ⟨hk56, h⟩ := chk_some h;refine zV R3 (Val.add rfl rfl hk56) (zM R4 (zN ?_));cases h;exact ⟨rfl, (v20_2, v19_2), (sb .refl)⟩
       refine zD rfl (zE ?_);cases h;exact ⟨ex_ne, ⟨rfl, (v20, v19), (sb .refl)⟩⟩
      ·rintro ⟨sure, may⟩ ⟨v20, v19⟩ h;dsimp only at h;dsimp only;refine zU rfl (zM R4 (zM R4 (zA R4 (zA R4 (zN (zR ?_))))));cases h;exact ⟨rfl, _, ⟨2, rfl, rfl⟩, [_, _], ⟨rfl, ⟨rfl, trivial⟩⟩, ⟨(v20, v19), rfl, (pk [0,0,2,2,2,2,2,2,2,98,98] rfl)⟩⟩
    ·rintro ⟨sure, may⟩ ⟨v23, v24⟩ h;dsimp only at h;refine ⟨(all_cons (.inl (by kernel_rfl)) (all_cons (.inl (by kernel_rfl)) (all_cons (.inl (by kernel_rfl)) (all_cons (.inl (by kernel_rfl)) all_nil)))), all_nil, ?_⟩;refine yG (_::_::_::_::_::_::_::_::_::C) rfl (yM R4 (Val.move rfl) (yM R4 (Val.extract rfl rfl) (yM R4 (Val.extract rfl rfl) (yM R4 (Val.assign rfl) (yM R4 (Val.assign rfl) (TD2.nil (zU rfl (zM R4 (zM R4 (zA R4 (zA R4 (zA R4 (zN (zR ?_))))))))))))));cases h;exact ⟨rfl, _, rfl, ⟨(v24, v23), rfl, (pk [1,0,6,98,98,98,98,98,98] rfl)⟩⟩
 ·rintro ⟨y6, nl, nl_2⟩ ⟨v26, v25⟩ h;dsimp only at h;refine zG (_::_::_::C) rfl (zX R5 (zX R5 (zX R5 (zA R4 (zA R4 (zA R4 (zN (zR ?_))))))));cases h;exact ⟨rfl, _, rfl, ⟨(v25, v26), rfl, (pk [1,0,98] rfl)⟩⟩
theorem w_c_Lost (c_Book_Signed : Int) (c_Book_Gatherings : GS encG) (c_Items : GS encIt) (r : (List Int) × (List Int) × Int) (h : P_c_Lost c_Book_Signed c_Book_Gatherings.l c_Items.l = some r) : Comes (EL 5) 7 [.agg [iv (c_Book_Signed), c_Book_Gatherings.v, c_Items.v]] (.tuple [(GSo true encI r.1).v, (GSo true encI r.2.1).v, iv r.2.2]) :=
 TF.run (tf_c_Lost (Nat.le_refl _) (RdT.gs c_Book_Gatherings) (RdT.gs c_Items) h) fun w => (.tuple (.cons (.ownL (en := encI) (p := 0) rfl (.lits encI_lits)) (.cons (.ownL (en := encI) (p := 1) rfl (.lits encI_lits)) (.cons .lit .nil))))
set_option maxRecDepth 10000 in
theorem tf_c_Loose {k : Nat} (hk : 5 ≤ k) {C : List Thing} {c_Book_Signed : Int} {v_c_Book_Gatherings : AV} {c_Book_Gatherings : List Gat} {v_c_Items : AV} {c_Items : List Item} (ht_c_Book_Gatherings : RdT encG v_c_Book_Gatherings c_Book_Gatherings) (ht_c_Items : RdT encIt v_c_Items c_Items) {r : (List Int) × (List Int) × Int} (h : P_c_Loose c_Book_Signed c_Book_Gatherings c_Items = some r) :
  TF (EL k) 10 [.agg [iv (c_Book_Signed), v_c_Book_Gatherings, v_c_Items]] C (RepF (fun (w : AV × AV) => .tuple [w.1, w.2, iv r.2.2]) (fun (w : AV × AV) => ownL true w.1 encI r.1 :: ownL true w.2 encI r.2.1 :: C)) := by
 unfold P_c_Loose at h
 have h_c_Book_Gatherings : Rdl C encG v_c_Book_Gatherings c_Book_Gatherings := RdT.rdl ht_c_Book_Gatherings
 have h_c_Items : Rdl C encIt v_c_Items c_Items := RdT.rdl ht_c_Items;refine TF.enter (fn := Go.Proofs.Tryz.f10) rfl rfl rfl rfl rfl (zU rfl (zQ 3 [_,_,_] R7 (fun b1=>zA R4 (zA R4 (zA R4 (zN (zU rfl (zV R3 (vW 0 [_,_,_] R5 R4) ?_))))))));refine TO.callJ (W := AV × AV) (fun (j : Int × (List Int) × (List Int)) (w : AV × AV) => .tuple [w.2, w.1, iv (j.1)]) (fun (j : Int × (List Int) × (List Int)) (w : AV × AV) => ownL true w.1 encI j.2.1 :: ownL true w.2 encI j.2.2 :: .row b1 3 [iv (c_Book_Signed), v_c_Book_Gatherings, v_c_Items] :: C) h rfl rfl rfl rfl rfl rfl (orcN rfl) ?_ ?_
 ·intro j h;refine TF.enter (fn := Go.Proofs.Tryz.f34) rfl rfl rfl rfl rfl (zU rfl (zQ 3 [_,_,_] R7 (fun b2=>zQ 1 [_] R7 (fun b3=>zA R4 (zA R4 (zA R4 (zN (zU rfl (zV R3 (vW 1 [_,_,_] R5 R4) ?_)))))))));obtain ⟨y12, hr12, h⟩ := andx_some h;cases y12 with
  | inl y12 =>
   obtain ⟨y12_2, y12_3, y12_4⟩ := y12;dsimp only at h;obtain ⟨hkn12, h⟩ := chk_some h;refine TO.callT (first := []) (cap := []) (vs := [.agg [iv (c_Book_Signed), v_c_Book_Gatherings, v_c_Items]]) rfl rfl rfl rfl rfl rfl (orcN rfl) (tf_c_open aD (Rdl.mono h_c_Book_Gatherings M3) (Rdl.mono h_c_Items M3) hr12) ?_;rintro _;refine zG (_::_::_::C) rfl (zM R4 (zX R5 (zX R5 (zX R5 (zX R5 (zJ 1 [_] R7 (fun b7=>TO.eff0 rfl rfl (Eff.store_row (p := 0) (cv := [_]) (cells' := [_]) rfl rfl rfl rfl rfl rfl rfl rfl aG (by decide) rfl) ?_)))))));rintro _ rfl;refine zG (_::_::_::_::C) rfl (zA R4 (zA R4 (zA R4 (zN (zS (zU rfl (zM R4 ?_)))))));obtain ⟨c18, hc18⟩ := zY (¬ y12_4 = 0);refine zV R3 (Val.neq hc18 rfl rfl) (zN ?_);obtain rfl : c18 = true := hc18.trans (decide_eq_true hkn12);refine zC rfl (zU rfl (zM R4 (zA R4 (zA R4 (zA R4 (zN (T.nilown (u := encI.u) (T.nilown (u := encI.u) (zR ?_)))))))));cases h;exact ⟨rfl, _, rfl, ⟨(nilS, nilS), rfl, (pk [0,0,3,98,98,98] rfl)⟩⟩
  | inr y12 =>
   obtain ⟨y12_2, y12_3, y12_4, y12_5, y12_6, y12_7⟩ := y12;dsimp only at h;obtain ⟨hkn12, h⟩ := chk_some h;refine TO.callT (first := []) (cap := []) (vs := [.agg [iv (c_Book_Signed), v_c_Book_Gatherings, v_c_Items]]) rfl rfl rfl rfl rfl rfl (orcN rfl) (tf_c_open aD (Rdl.mono h_c_Book_Gatherings M3) (Rdl.mono h_c_Items M3) hr12) ?_;rintro ⟨w12, w12_2⟩;refine zG (_::_::_::_::_::C) rfl (zM R4 (zX R5 (zX R5 (zX R5 (zX R5 (zJ 1 [_] R7 (fun b7=>TO.eff0 rfl rfl (Eff.store_row (p := 0) (cv := [_]) (cells' := [_]) rfl rfl rfl rfl rfl rfl rfl rfl aG (by decide) rfl) ?_)))))));rintro _ rfl;refine zG (_::_::_::_::_::_::C) rfl (zA R4 (zA R4 (zA R4 (zN (zS (zU rfl (zM R4 ?_)))))));obtain ⟨c18, hc18⟩ := zY (¬ y12_7 = 0);refine zV R3 (Val.neq hc18 rfl rfl) (zN ?_);obtain rfl : c18 = false := hc18.trans (decide_eq_false (fun x => x hkn12));refine zD rfl (zK (zS (T.drawE (l1 := [0, 2, 3, 4, 5, 6, 7]) (l2 := [1, 8, 9, 10, 11, 12, 13]) (by kernel_rfl) (by kernel_rfl) (yR R4 (vR (p := 0) R6) (yL R4 (Val.makeFunc rfl rfl) (yR R4 (vR (p := 0) R6) (yL R4 (Val.nil_ptr rfl) (yL R4 (Val.faddr_ptr (fo := 3) rfl rfl rfl) (yR R4 (vR (p := 1) R6) (yR R4 (Val.len_gs rfl rfl) (TD1.over (fun v => sameC_refl v) (all_cons (⟨_, rfl, (Val.len_gs rfl rfl)⟩) (all_cons (⟨_, rfl, (vR (p := 1) R6)⟩) (all_cons (⟨_, rfl, (vR (p := 0) R6)⟩) (all_cons (⟨_, rfl, (vR (p := 0) R6)⟩) all_nil)))) ?_)))))))))));refine TD2.callJ (fun v => sameC_refl v) (W := Nat) (fun (j : Unit) (w : Nat) => .func 74 [] [.ptr w 0 1]) (fun (j : Unit) (w : Nat) => .row w 1 [.ptr w12 0 5] :: .row b7 1 [.ptr w12 0 5] :: .row w12 5 [iv (y12_2), v_c_Book_Gatherings, v_c_Items, y12_3.v, w12_2] :: ownL true w12_2 encI y12_4 :: .row b3 1 [.func 39 [] []] :: .row b2 3 [iv (c_Book_Signed), v_c_Book_Gatherings, v_c_Items] :: .row b1 3 [iv (c_Book_Signed), v_c_Book_Gatherings, v_c_Items] :: C) h rfl (by decide) rfl rfl rfl rfl rfl (orcN rfl) ?_ ?_
   ·intro j h;refine TF.enter (fn := Go.Proofs.Tryz.f54) rfl rfl rfl rfl rfl (zU rfl (zQ 1 [_] R7 (fun b1_2=>zA R4 (zN (zU rfl (zV R3 (Val.makeFunc rfl rfl) (zA R4 (zN (zR ?_)))))))));cases h;exact ⟨rfl, _, rfl, ⟨b1_2, rfl, .refl⟩⟩
   ·rintro _ id10 h;refine ⟨(all_cons (.inr ⟨_, rfl, (Val.len_gs rfl rfl)⟩) (all_cons (.inr ⟨_, rfl, (vR (p := 2) R6)⟩) (all_cons (.inr ⟨_, rfl, (vR (p := 1) R6)⟩) (all_cons (.inl (by kernel_rfl)) all_nil)))), all_nil, ?_⟩;refine yG (_::_::_::_::_::_::_::C) rfl ?_;refine TD2.callJ (fun v => sameC_refl v) (W := AV × AV) (fun (j : (List Int) × (List Int)) (w : AV × AV) => .tuple [w.1, w.2]) (fun (j : (List Int) × (List Int)) (w : AV × AV) => ownL true w.1 encI j.1 :: ownL true w.2 encI j.2 :: .row id10 1 [.ptr w12 0 5] :: .row b7 1 [.ptr w12 0 5] :: .row w12 5 [iv (y12_2), v_c_Book_Gatherings, v_c_Items, y12_3.v, w12_2] :: ownL true w12_2 encI y12_4 :: .row b3 1 [.func 39 [] []] :: .row b2 3 [iv (c_Book_Signed), v_c_Book_Gatherings, v_c_Items] :: .row b1 3 [iv (c_Book_Signed), v_c_Book_Gatherings, v_c_Items] :: C) h rfl (by decide) rfl rfl rfl rfl rfl (orcN rfl) ?_ ?_
    ·intro j h;refine TF.enterG (fn := Go.Proofs.Tryz.f62) rfl rfl rfl rfl rfl (zU rfl (zQ 1 [_] R7 (fun b4=>zA R4 (zA R4 (zN (zU rfl (zM R4 ?_)))))));obtain ⟨hk16, h⟩ := chk_some h;refine TO.makeE (en := encI) (0) (b := 8) rfl rfl rfl ⟨rfl, rfl⟩ rfl rfl rfl rfl rfl hk16 (by decide) (fun v16=>zJ 1 [_] R7 (fun b8=>zJ 1 [_] R7 (fun b9=>TO.fact (own_cellS (p := 2) rfl) (fun hot12=>TO.eff0 rfl rfl (Eff.store_row (p := 1) (cv := [_]) (cells' := [_]) rfl rfl rfl rfl rfl hot12.1 rfl rfl (by first | rfl | (simp [GS.one, hot12.2]; done)) (by decide) rfl) ?_))));rintro _ rfl;refine zG (_::_::_::_::_::_::_::_::_::_::_::C) rfl (TO.eff0 rfl rfl (Eff.store_row (p := 0) (cv := [_]) (cells' := [_]) rfl rfl rfl rfl rfl rfl rfl rfl aG (by decide) rfl) ?_);rintro _ rfl;refine zG (_::_::_::_::_::_::_::_::_::_::_::C) rfl (zN ?_)
     show T _ _ _ _ _ _;apply T.joinA (r := j) (W := Nat) (fun j w => ⟨[w], [(6, nilS), (7, nilS), (8, .ptr b8 0 1), (9, .ptr b9 0 1)], .obj w (.dfr true) :: .row b9 1 [iv (j.1)] :: .row b8 1 [v16] :: ownL false v16 encI j.2 :: .row b4 1 [.func 63 [] [.ptr b3 0 1, .ptr b7 0 1]] :: .row id10 1 [.ptr w12 0 5] :: .row b7 1 [.ptr w12 0 5] :: .row w12 5 [iv (y12_2), v_c_Book_Gatherings, v_c_Items, y12_3.v, w12_2] :: ownL true w12_2 encI y12_4 :: .row b3 1 [.func 39 [] []] :: .row b2 3 [iv (c_Book_Signed), v_c_Book_Gatherings, v_c_Items] :: .row b1 3 [iv (c_Book_Signed), v_c_Book_Gatherings, v_c_Items] :: C⟩) h
     ·intro j h;refine zU rfl (zM R4 (zN (zB ?_)));obtain ⟨hkR1, h⟩ := chk_some h
      show T _ _ _ _ _ _;apply T.rangeP (r := j) (W := Unit) (w0 := ()) ArgT (fun (j : Int × (List Int)) (w : Unit) => [.row b9 1 [iv (j.1)], .row b8 1 [v16], ownL false v16 encI j.2]) (.row b4 1 [.func 63 [] [.ptr b3 0 1, .ptr b7 0 1]] :: .row id10 1 [.ptr w12 0 5] :: .row b7 1 [.ptr w12 0 5] :: .row w12 5 [iv (y12_2), v_c_Book_Gatherings, v_c_Items, y12_3.v, w12_2] :: ownL true w12_2 encI y12_4 :: .row b3 1 [.func 39 [] []] :: .row b2 3 [iv (c_Book_Signed), v_c_Book_Gatherings, v_c_Items] :: .row b1 3 [iv (c_Book_Signed), v_c_Book_Gatherings, v_c_Items] :: C) h
      ·rfl
      ·rfl
      ·rfl
      ·exact .refl
      ·exact tr_yields (List.mem_of_getElem? (i := 1) rfl) (List.mem_of_getElem? (i := 3) rfl) (Rdl.mono h_c_Items M8) hkR1
      ·rintro l1 d ⟨times, many⟩ _ t vs G F1 ans hmem harg hD hG h;unfold P_c_Loose_L1 at h;dsimp only at h;obtain ⟨v_t, rfl, rfl⟩ := harg
       have h_t : Rdl F1 encI v_t t := .inr ⟨false, hG _ (by simp)⟩
       have hCF : ∀ x ∈ C, x ∈ F1 := fun x hx => hD x (memS M7 x hx)
       replace h_c_Book_Gatherings := Rdl.mono h_c_Book_Gatherings hCF;replace h_c_Items := Rdl.mono h_c_Items hCF
       have hu1_t8 : Rdl F1 encI w12_2 y12_4 := .inr ⟨true, (hD _ (List.mem_of_getElem? (i := 4) rfl))⟩
       have hu1_t7 : Thing.row w12 5 [iv (y12_2), v_c_Book_Gatherings, v_c_Items, y12_3.v, w12_2] ∈ F1 := (hD _ (List.mem_of_getElem? (i := 3) rfl))
       have hu1_t3 : Thing.row b3 1 [.func 39 [] []] ∈ F1 := (hD _ (List.mem_of_getElem? (i := 5) rfl))
       have hu1_t2 : Thing.row b2 3 [iv (c_Book_Signed), v_c_Book_Gatherings, v_c_Items] ∈ F1 := (hD _ (List.mem_of_getElem? (i := 6) rfl))
       have hu1_t1 : Thing.row b1 3 [iv (c_Book_Signed), v_c_Book_Gatherings, v_c_Items] ∈ F1 := (hD _ (List.mem_of_getElem? (i := 7) rfl))
       have hu1_t10 : Thing.row id10 1 [.ptr w12 0 5] ∈ F1 := (hD _ (List.mem_of_getElem? (i := 1) rfl))
       have hu1_t9 : Thing.row b7 1 [.ptr w12 0 5] ∈ F1 := (hD _ (List.mem_of_getElem? (i := 2) rfl))
       have hu1_t11 : Thing.row b4 1 [.func 63 [] [.ptr b3 0 1, .ptr b7 0 1]] ∈ F1 := (hD _ (List.mem_of_getElem? (i := 0) rfl));refine ⟨_, rfl, fun LR1 LB1 hLB1 => ?_⟩;refine T.things (hs' := LR1 :: .row b9 1 [iv (times)] :: .row b8 1 [v16] :: ownL false v16 encI many :: F1) rfl (zT rfl (zA R4 (zN ?_)));refine ⟨rfl, 0, rfl, ?_⟩;refine T.things (hs' := LB1 :: .row b9 1 [iv (times)] :: .row b8 1 [v16] :: ownL false v16 encI many :: F1) rfl (zB (zU rfl (zL 1 R3 R6 ?_)));obtain ⟨hk20, h⟩ := chk_some h;refine zV R3 (Val.add rfl rfl hk20) (TO.eff0 rfl rfl (Eff.store_row (p := 1) (cv := [_]) (cells' := [_]) rfl rfl rfl rfl rfl rfl rfl rfl aG (by decide) rfl) ?_);rintro _ rfl;refine zG (_::_::_::_::F1) rfl (zN (zU rfl (zV R3 (Val.load_rowM hu1_t11 M4 ⟨_, rfl, rfl⟩ rfl rfl rfl) (zM R4 (TO.callIn rfl rfl rfl rfl rfl rfl (orcN rfl) (TF.enter (fn := Go.Proofs.Tryz.f63) rfl rfl rfl rfl rfl (zU rfl (zA R4 (zN (zU rfl (zV R3 (Val.load_rowM hu1_t3 M4 ⟨_, rfl, rfl⟩ rfl rfl rfl) (zV R3 (Val.load_rowM hu1_t9 M4 ⟨_, rfl, rfl⟩ rfl rfl rfl) (zM R4 ?_)))))))))))));refine TO.callJ (W := AV) (fun (j : (List Int)) (w : AV) => w) (fun (j : (List Int)) (w : AV) => ownL true w encI j :: LB1 :: .row b9 1 [iv ((times + 1))] :: .row b8 1 [v16] :: ownL false v16 encI many :: F1) h rfl rfl rfl rfl rfl rfl (orcN rfl) ?_ ?_
       ·intro j h;refine TF.enter (fn := Go.Proofs.Tryz.f39) rfl rfl rfl rfl rfl (zU rfl (zA R4 (zN (zU rfl (zM R4 (zM R4 ?_))))));obtain ⟨y10, hr10, h⟩ := andx_some h;refine TO.callT (first := []) (cap := []) (vs := [.ptr w12 0 5, v_t]) rfl rfl rfl rfl rfl rfl (orcN rfl) (tf_c_there aD (Rdl.mono h_c_Book_Gatherings M4) (Rdl.mono h_c_Items M4) (Rdl.mono (Rdl.gs (C := F1) y12_3) M4) (Rdl.mono hu1_t8 M4) (M4 _ hu1_t7) (Rdl.mono h_t M4) hr10) ?_;rintro w10;refine zG (_::_::_::_::_::F1) rfl (zA R4 (zN ?_))
        show T _ _ _ _ _ _;apply T.joinA (r := j) (W := AV) (fun j w => ⟨[], [(4, w)], ownL true w encI j :: .cnt w10 KInt (cntI y10) [] :: LB1 :: .row b9 1 [iv ((times + 1))] :: .row b8 1 [v16] :: ownL false v16 encI many :: F1⟩) h
        ·intro j h;refine zU rfl (zM R4 (zV R3 (Val.nil_ptr rfl) (zF 4 R6 (zV R3 (Val.load_rowM hu1_t7 M5 ⟨_, rfl, rfl⟩ rfl rfl rfl) (zV R3 (Val.len_l hu1_t8 M5 rfl rfl) (zM R4 (zN (zB (T.nilown (u := encI.u) ?_)))))))))
         show T _ _ _ _ _ _;apply T.iter (r := j) (W := AV) (fun j w => ⟨[], [(4, w), (5, .map w10), (14, w12_2), (15, iv ((y12_4.length : Int))), (16, iv (j.1))], ownL true w encI j.2 :: .cnt w10 KInt (cntI y10) [] :: LB1 :: .row b9 1 [iv ((times + 1))] :: .row b8 1 [v16] :: ownL false v16 encI many :: F1⟩) (w0 := nilS) h
         ·exact (sb .refl)
         rintro ⟨x16, l⟩ v16_2 a h;unfold P_c_Loose_L2 at h;dsimp only at h;dsimp only;refine zU rfl ?_;obtain ⟨c17, hc17⟩ := zY (x16 < (y12_4.length : Int));refine zV R3 (Val.lss hc17 rfl rfl) (zN (zS ?_));obtain ⟨rfl, hc17, h⟩ | ⟨rfl, hc17, h⟩ := zI hc17 h
         ·refine zC rfl (zK ?_)
          show T _ _ _ _ _ _;apply T.joinA (r := a) (W := AV) (fun j w => ⟨[], [(4, w), (5, .map w10), (14, w12_2), (15, iv ((y12_4.length : Int))), (16, iv (x16))], ownL true w encI j :: .cnt w10 KInt (cntI y10) [] :: LB1 :: .row b9 1 [iv ((times + 1))] :: .row b8 1 [v16] :: ownL false v16 encI many :: F1⟩) h
          ·intro j h;refine zB (zU rfl (zM R4 ?_));obtain ⟨a19, hia19, ea19, h⟩ := el_some h;refine TO.fact (rdl_at hu1_t8 M6 hia19 ea19) (fun hp=>?_);obtain ⟨pa19, hpa19, hva19⟩ := hp;refine zV R3 (hva19 ⟨rfl, rfl⟩ rfl rfl) (zV R3 (Val.load_e hpa19 M6 ⟨_, rfl, rfl⟩ rfl rfl) (zA R4 (zA R4 (zN ?_))))
           show T _ _ _ _ _ _;apply T.joinA (r := j) (W := Unit) (fun j w => ⟨[], [(4, v16_2), (5, .map w10), (6, iv (x16)), (14, w12_2), (15, iv ((y12_4.length : Int))), (16, iv (x16)), (34, bv j)], ownL true v16_2 encI l :: .cnt w10 KInt (cntI y10) [] :: LB1 :: .row b9 1 [iv ((times + 1))] :: .row b8 1 [v16] :: ownL false v16 encI many :: F1⟩) h
           ·intro j h;refine zT rfl (zM R4 (zM R4 (zV R3 (Val.lookupI (p := 1) rfl rfl key_ty3 rfl rfl rfl) ?_)));obtain ⟨c24, hc24⟩ := zY ((y10 x16) > 0);refine zV R3 (Val.gtr hc24 rfl rfl) (zM R4 ?_);obtain ⟨rfl, hc24, h⟩ | ⟨rfl, hc24, h⟩ := zI hc24 h
            ·refine zM R4 ?_;obtain ⟨c27, hc27⟩ := zY (a19 ≥ 0);refine zV R3 (Val.geq hc27 rfl rfl) (zP R6 (zM R4 ?_));obtain ⟨rfl, hc27, h⟩ | ⟨rfl, hc27, h⟩ := zI hc27 h
             ·refine zM R4 (zM R4 (zV R3 (Val.lookupI (p := 1) rfl rfl key_ty3 rfl rfl rfl) ?_));obtain ⟨c33, hc33⟩ := zY ((y10 a19) = 0);refine zV R3 (Val.eql hc33 rfl rfl) (zP R6 (zN ?_));subst hc33;cases h;exact ⟨rfl, (), (sb .refl)⟩
             refine zO R3 (zO R3 (zO R3 (zO R3 (zP R6 (zN ?_)))));cases h;exact ⟨rfl, (), (sb .refl)⟩
            refine zO R3 (zO R3 (zP R6 (zM R4 (zO R3 (zO R3 (zO R3 (zO R3 (zP R6 (zN ?_)))))))));cases h;exact ⟨rfl, (), (sb .refl)⟩
           ·rintro x34 _ h;obtain ⟨rfl, h⟩ | ⟨rfl, h⟩ := zZ h
            ·refine zC rfl (zT rfl (zM R4 (zM R4 (TO.build1 (en := encI) (a := x16) rfl rfl rfl ⟨rfl, rfl⟩ ⟨_, rfl, rfl⟩ (by decide) (by decide) rfl rfl (fun v37=>?_)))));obtain ⟨hk38, h⟩ := chk_some h;refine TO.eff rfl rfl rfl (Eff.append_own (b := 8) (en := encI) (l := l) (l2 := [x16]) (p := 1) (q := 0) ⟨rfl, rfl, rfl, ⟨_, rfl, rfl⟩, by decide, by decide⟩ rfl rfl rfl rfl rfl rfl (flat_ones _) (by decide) hk38) ?_;rintro v38 _ rfl;refine zG (_::_::_::_::_::_::_::F1) rfl (zA R4 (zN ?_));cases h;exact ⟨rfl, v38, (sb (pk [1,1,1,1,1,1,98] rfl))⟩
            refine zD rfl (zK ?_);cases h;exact ⟨rfl, v16_2, (sb .refl)⟩
          ·rintro l_2 v16_3 h;refine zT rfl ?_;obtain ⟨hk39, h⟩ := chk_some h;refine zV R3 (Val.add rfl rfl hk39) (zM R4 (zN ?_));cases h;exact ⟨rfl, v16_3, (sb .refl)⟩
         refine zD rfl (zE ?_);cases h;exact ⟨ex_ne, ⟨rfl, v16_2, (sb .refl)⟩⟩
        ·rintro l v16_2 h;refine zU rfl (zM R4 (zA R4 (zN (zR ?_))));cases h;exact ⟨rfl, _, rfl, ⟨v16_2, rfl, (pk [0,1,1,1,1,98] rfl)⟩⟩
       ·rintro l v18 h;refine zG (_::_::_::_::_::F1) rfl (zA R4 (zN (zR ?_)));refine ⟨rfl, _, rfl, ?_⟩;refine zV R3 (Val.len_own (p := 0) rfl rfl rfl) (zM R4 (zN (zB ?_)))
        show T _ _ _ _ _ _;apply T.iter (r := ans) (W := Unit) (fun j w => ⟨[], [(8, .ptr b8 0 1), (23, v18), (24, iv ((l.length : Int))), (25, iv (j.1))], ownL true v18 encI l :: LB1 :: .row b9 1 [iv ((times + 1))] :: .row b8 1 [v16] :: ownL false v16 encI j.2 :: F1⟩) (w0 := ()) h
        ·exact (sb .refl)
        rintro ⟨x25, many_2⟩ _ a h;unfold P_c_Loose_L3 at h;dsimp only at h;dsimp only;refine zU rfl ?_;obtain ⟨c26, hc26⟩ := zY (x25 < (l.length : Int));refine zV R3 (Val.lss hc26 rfl rfl) (zN (zS ?_));obtain ⟨rfl, hc26, h⟩ | ⟨rfl, hc26, h⟩ := zI hc26 h
        ·refine zC rfl (zK (zS (zB (zU rfl ?_))));obtain ⟨a27, hia27, ea27, h⟩ := el_some h;refine TO.fact (own_at (en := encI) (p := 0) rfl hia27) (fun hp=>?_);obtain ⟨ida27, ata27⟩ := hp;refine zV R3 (Val.iaddr_at (en := encI) ata27 ⟨rfl, rfl⟩ rfl rfl hia27) (zV R3 (Val.load_ownL (en := encI) (p := 0) (j := 0) rfl ata27 ⟨_, rfl, rfl⟩ rfl ea27 rfl) (zA R4 (zN (zT rfl (zL 3 R3 R6 (zM R4 ?_))))));obtain ⟨a31, hia31, ea31, h⟩ := el_some h;refine TO.fact (own_at (en := encI) (p := 4) rfl hia31) (fun hp=>?_);obtain ⟨ida31, ata31⟩ := hp;refine zV R3 (Val.iaddr_at (en := encI) ata31 ⟨rfl, rfl⟩ rfl rfl hia31) (zV R3 (Val.load_ownL (en := encI) (p := 4) (j := 0) rfl ata31 ⟨_, rfl, rfl⟩ rfl ea31 rfl) ?_);obtain ⟨hk33, h⟩ := chk_some h;refine zV R3 (Val.add rfl rfl hk33) ?_;obtain ⟨a34, hia34, ea34, h⟩ := el_some h;refine TO.fact (own_at (en := encI) (p := 4) rfl hia34) (fun hp=>?_);obtain ⟨ida34, ata34⟩ := hp;refine zV R3 (Val.iaddr_at (en := encI) ata34 ⟨rfl, rfl⟩ rfl rfl hia34) (TO.eff0 rfl rfl (Eff.store_ownE (en := encI) (p := 4) (a := a34) (a' := (a31 + 1)) (j := 0) (cv := [_]) rfl ata34 ea34 rfl rfl (by decide) rfl rfl rfl rfl aG rfl) ?_);rintro _ rfl;refine zG (_::_::_::_::_::F1) rfl (zN (zT rfl ?_));obtain ⟨hk35, h⟩ := chk_some h;refine zV R3 (Val.add rfl rfl hk35) (zM R4 (zN ?_));cases h;exact ⟨rfl, (), (sb .refl)⟩
        refine zD rfl (zE ?_);cases h;exact ⟨ex_ne, ⟨rfl, (), (pk [1,1,1,1,98] rfl)⟩⟩
      ·rintro d ⟨times, many⟩ _ h;dsimp only at h;cases h;exact ⟨rfl, d, (sb .refl)⟩
     ·rintro ⟨times, many⟩ iddfr1 h;dsimp only at h;dsimp only
      show T _ _ _ _ _ _;apply T.joinA (r := j) (W := AV × AV) (fun j w => ⟨[iddfr1], [(6, w.1), (7, w.2)], ownL true w.1 encI j.1 :: ownL true w.2 encI j.2 :: .obj iddfr1 (.dfr true) :: .row b9 1 [iv (times)] :: ownL false v16 encI many :: .row id10 1 [.ptr w12 0 5] :: .row b7 1 [.ptr w12 0 5] :: .row w12 5 [iv (y12_2), v_c_Book_Gatherings, v_c_Items, y12_3.v, w12_2] :: ownL true w12_2 encI y12_4 :: .row b3 1 [.func 39 [] []] :: .row b2 3 [iv (c_Book_Signed), v_c_Book_Gatherings, v_c_Items] :: .row b1 3 [iv (c_Book_Signed), v_c_Book_Gatherings, v_c_Items] :: C⟩) h
      ·intro j h;refine zU rfl (zL 2 R3 R6 (zV R3 (Val.len_own (p := 3) rfl rfl rfl) (zM R4 (zN (zB (T.nilown (u := encI.u) (T.nilown (u := encI.u) ?_)))))))
       show T _ _ _ _ _ _;apply T.iter (r := j) (W := AV × AV) (fun j w => ⟨[iddfr1], [(6, w.1), (7, w.2), (9, .ptr b9 0 1), (36, v16), (37, iv ((many.length : Int))), (38, iv (j.1))], ownL true w.1 encI j.2.1 :: ownL true w.2 encI j.2.2 :: .obj iddfr1 (.dfr true) :: .row b9 1 [iv (times)] :: ownL false v16 encI many :: .row id10 1 [.ptr w12 0 5] :: .row b7 1 [.ptr w12 0 5] :: .row w12 5 [iv (y12_2), v_c_Book_Gatherings, v_c_Items, y12_3.v, w12_2] :: ownL true w12_2 encI y12_4 :: .row b3 1 [.func 39 [] []] :: .row b2 3 [iv (c_Book_Signed), v_c_Book_Gatherings, v_c_Items] :: .row b1 3 [iv (c_Book_Signed), v_c_Book_Gatherings, v_c_Items] :: C⟩) (w0 := (nilS, nilS)) h
       ·exact (sb (pk [0,0,0,0,1,2,2,2,2,2,2,2,98,98] rfl))
       rintro ⟨x38, sure, may⟩ ⟨v20, v19⟩ a h;unfold P_c_Loose_L4 at h;dsimp only at h;dsimp only;refine zU rfl ?_;obtain ⟨c39, hc39⟩ := zY (x38 < (many.length : Int));refine zV R3 (Val.lss hc39 rfl rfl) (zN (zS ?_));obtain ⟨rfl, hc39, h⟩ | ⟨rfl, hc39, h⟩ := zI hc39 h
       ·refine zC rfl (zK ?_)
        show T _ _ _ _ _ _;apply T.joinA (r := a) (W := AV × AV) (fun j w => ⟨[iddfr1], [(6, w.1), (7, w.2), (9, .ptr b9 0 1), (36, v16), (37, iv ((many.length : Int))), (38, iv (x38))], ownL true w.1 encI j.1 :: ownL true w.2 encI j.2 :: .obj iddfr1 (.dfr true) :: .row b9 1 [iv (times)] :: ownL false v16 encI many :: .row id10 1 [.ptr w12 0 5] :: .row b7 1 [.ptr w12 0 5] :: .row w12 5 [iv (y12_2), v_c_Book_Gatherings, v_c_Items, y12_3.v, w12_2] :: ownL true w12_2 encI y12_4 :: .row b3 1 [.func 39 [] []] :: .row b2 3 [iv (c_Book_Signed), v_c_Book_Gatherings, v_c_Items] :: .row b1 3 [iv (c_Book_Signed), v_c_Book_Gatherings, v_c_Items] :: C⟩) h
        ·intro j h;refine zB (zU rfl (zM R4 ?_));obtain ⟨a41, hia41, ea41, h⟩ := el_some h;refine TO.fact (own_at (en := encI) (p := 4) rfl hia41) (fun hp=>?_);obtain ⟨ida41, ata41⟩ := hp;refine zV R3 (Val.iaddr_at (en := encI) ata41 ⟨rfl, rfl⟩ rfl rfl hia41) (zV R3 (Val.load_ownL (en := encI) (p := 4) (j := 0) rfl ata41 ⟨_, rfl, rfl⟩ rfl ea41 rfl) (zA R4 (zA R4 (zN ?_))))
         show T _ _ _ _ _ _;apply T.joinA (r := j) (W := AV) (fun j w => ⟨[iddfr1], [(6, w), (7, v19), (9, .ptr b9 0 1), (13, iv (x38)), (14, iv (a41)), (36, v16), (37, iv ((many.length : Int))), (38, iv (x38))], ownL true w encI j :: ownL true v19 encI may :: .obj iddfr1 (.dfr true) :: .row b9 1 [iv (times)] :: ownL false v16 encI many :: .row id10 1 [.ptr w12 0 5] :: .row b7 1 [.ptr w12 0 5] :: .row w12 5 [iv (y12_2), v_c_Book_Gatherings, v_c_Items, y12_3.v, w12_2] :: ownL true w12_2 encI y12_4 :: .row b3 1 [.func 39 [] []] :: .row b2 3 [iv (c_Book_Signed), v_c_Book_Gatherings, v_c_Items] :: .row b1 3 [iv (c_Book_Signed), v_c_Book_Gatherings, v_c_Items] :: C⟩) h
         ·intro j h;refine zU rfl (zM R4 (zL 3 R3 R6 ?_));obtain ⟨c45, hc45⟩ := zY (a41 = times);refine zV R3 (Val.eql hc45 rfl rfl) (zN ?_);obtain ⟨rfl, hc45, h⟩ | ⟨rfl, hc45, h⟩ := zI hc45 h
          ·refine zC rfl (zT rfl (zM R4 (zM R4 (TO.build1 (en := encI) (a := x38) rfl rfl rfl ⟨rfl, rfl⟩ ⟨_, rfl, rfl⟩ (by decide) (by decide) rfl rfl (fun v48=>?_)))));obtain ⟨hk49, h⟩ := chk_some h;refine TO.eff rfl rfl rfl (Eff.append_own (b := 8) (en := encI) (l := sure) (l2 := [x38]) (p := 1) (q := 0) ⟨rfl, rfl, rfl, ⟨_, rfl, rfl⟩, by decide, by decide⟩ rfl rfl rfl rfl rfl rfl (flat_ones _) (by decide) hk49) ?_;rintro v49 _ rfl;refine zG (_::_::_::_::_::_::_::_::_::_::_::_::_::C) rfl (zA R4 (zN ?_));cases h;exact ⟨rfl, v49, (sb (pk [1,1,1,1,1,1,1,1,1,1,1,1,98] rfl))⟩
          refine zD rfl (zK ?_);cases h;exact ⟨rfl, v20, (sb .refl)⟩
         ·rintro sure_2 v20_2 h;refine zU rfl (zM R4 ?_);obtain ⟨c51, hc51⟩ := zY (a41 > 0);refine zV R3 (Val.gtr hc51 rfl rfl) (zN ?_);obtain ⟨rfl, hc51, h⟩ | ⟨rfl, hc51, h⟩ := zI hc51 h
          ·refine zC rfl (zT rfl (zM R4 (zM R4 (TO.build1 (en := encI) (a := x38) rfl rfl rfl ⟨rfl, rfl⟩ ⟨_, rfl, rfl⟩ (by decide) (by decide) rfl rfl (fun v54=>?_)))));obtain ⟨hk55, h⟩ := chk_some h;refine TO.eff rfl rfl rfl (Eff.append_own (b := 8) (en := encI) (l := may) (l2 := [x38]) (p := 2) (q := 0) ⟨rfl, rfl, rfl, ⟨_, rfl, rfl⟩, by decide, by decide⟩ rfl rfl rfl rfl rfl rfl (flat_ones _) (by decide) hk55) ?_;rintro v55 _ rfl;refine zG (_::_::_::_::_::_::_::_::_::_::_::_::_::C) rfl (zA R4 (zN ?_));cases h;exact ⟨rfl, (v20_2, v55), (sb (pk [1,1,1,1,1,1,1,1,1,1,1,1,98] rfl))⟩
          refine zD rfl (zK ?_);cases h;exact ⟨rfl, (v20_2, v19), (sb .refl)⟩
        ·rintro ⟨sure_2, may_2⟩ ⟨v20_2, v19_2⟩ h;dsimp only at h;dsimp only;refine zT rfl ?_;obtain ⟨hk56, h⟩ := chk_some h;refine zV R3 (Val.add rfl rfl hk56) (zM R4 (zN ?_));cases h;exact ⟨rfl, (v20_2, v19_2), (sb .refl)⟩
       refine zD rfl (zE ?_);cases h;exact ⟨ex_ne, ⟨rfl, (v20, v19), (sb .refl)⟩⟩
      ·rintro ⟨sure, may⟩ ⟨v20, v19⟩ h;dsimp only at h;dsimp only;refine zU rfl (zM R4 (zM R4 (zA R4 (zA R4 (zN (zR ?_))))));cases h;exact ⟨rfl, _, ⟨2, rfl, rfl⟩, [_, _], ⟨rfl, ⟨rfl, trivial⟩⟩, ⟨(v20, v19), rfl, (pk [0,0,2,2,2,2,2,2,2,98,98] rfl)⟩⟩
    ·rintro ⟨sure, may⟩ ⟨v23, v24⟩ h;dsimp only at h;refine ⟨(all_cons (.inl (by kernel_rfl)) (all_cons (.inl (by kernel_rfl)) (all_cons (.inl (by kernel_rfl)) (all_cons (.inl (by kernel_rfl)) all_nil)))), all_nil, ?_⟩;refine yG (_::_::_::_::_::_::_::_::_::C) rfl (yM R4 (Val.move rfl) (yM R4 (Val.extract rfl rfl) (yM R4 (Val.extract rfl rfl) (yM R4 (Val.assign rfl) (yM R4 (Val.assign rfl) (TD2.nil (zU rfl (zM R4 (zM R4 (zA R4 (zA R4 (zA R4 (zN (zR ?_))))))))))))));cases h;exact ⟨rfl, _, rfl, ⟨(v24, v23), rfl, (pk [1,0,6,98,98,98,98,98,98] rfl)⟩⟩
 ·rintro ⟨y6, nl, nl_2⟩ ⟨v26, v25⟩ h;dsimp only at h;refine zG (_::_::_::C) rfl (zX R5 (zX R5 (zX R5 (zA R4 (zA R4 (zA R4 (zN (zR ?_))))))));cases h;exact ⟨rfl, _, rfl, ⟨(v25, v26), rfl, (pk [1,0,98] rfl)⟩⟩
theorem w_c_Loose (c_Book_Signed : Int) (c_Book_Gatherings : GS encG) (c_Items : GS encIt) (r : (List Int) × (List Int) × Int) (h : P_c_Loose c_Book_Signed c_Book_Gatherings.l c_Items.l = some r) : Comes (EL 5) 10 [.agg [iv (c_Book_Signed), c_Book_Gatherings.v, c_Items.v]] (.tuple [(GSo true encI r.1).v, (GSo true encI r.2.1).v, iv r.2.2]) :=
 TF.run (tf_c_Loose (Nat.le_refl _) (RdT.gs c_Book_Gatherings) (RdT.gs c_Items) h) fun w => (.tuple (.cons (.ownL (en := encI) (p := 0) rfl (.lits encI_lits)) (.cons (.ownL (en := encI) (p := 1) rfl (.lits encI_lits)) (.cons .lit .nil))))
end Go.Am.YthckcbfijdambaaGreat
end
section
namespace Go.Am
set_option linter.unusedVariables false
noncomputable def P_r4_Check_L1 (c_Items : List Item) (all33 : List Leaf) : Int → Option (Stp Int (Ex Unit (Int × Int × Int))) := fun i =>
  if i < (c_Items.length : Int) then
    el c_Items i fun a49 =>
    andx (P_r4_item a49.could.l (all33.length : Int)) fun y52 =>
      if ¬ y52 = 0 then
        some (Stp.dn (Ex.rt (2, i, y52)))
      else
        chk (I64 (i + 1)) (
          some (Stp.ag (i + 1)))
  else
    some (Stp.dn (Ex.nx ()))
noncomputable def P_r4_Check_L2 (c_Items : List Item) : (Int × Int) → Option (Stp (Int × Int) (Ex Unit (Int × Int × Int))) := fun (doubts, i) =>
  if i < (c_Items.length : Int) then
    seqx (
      andx (
        el c_Items i fun a67 =>
        if (a67.could.l.length : Int) > 1 then
          chk (I64 (doubts + 1)) (
            some (doubts + 1))
        else
          some doubts) fun doubts_2 =>
        if doubts_2 > 3 then
          some (Ex.rt (Stp.dn (Ex.rt (3, i, 3))))
        else
          some (Ex.nx doubts_2)) fun doubts_2 =>
      chk (I64 (i + 1)) (
        some (Stp.ag (doubts_2, (i + 1))))
  else
    some (Stp.dn (Ex.nx ()))
noncomputable def P_r4_Check (c_Book_Signed : Int) (c_Book_Gatherings : List Gat) (c_Items : List Item) : Option (Int × Int × Int) :=
  andx (P_r1_Check c_Book_Signed c_Book_Gatherings) fun (part15, at_15, e15) =>
    andx (
      andx (
        if e15 = 0 then
          andx (P_r1_All c_Book_Signed c_Book_Gatherings) fun all24 =>
            some (decide ((all24.length : Int) > 120))
        else
          some false) fun x27 =>
        if x27 = true then
          some 3
        else
          some e15) fun e =>
      if ¬ e = 0 then
        some (1, 0, e)
      else
        andx (P_r1_All c_Book_Signed c_Book_Gatherings) fun all33 =>
          if (c_Items.length : Int) > 120 then
            some (2, 0, 3)
          else
            seqx (
              iter (P_r4_Check_L1 c_Items all33) 0) fun _ =>
              seqx (
                iter (P_r4_Check_L2 c_Items) (0, 0)) fun _ =>
                some (0, 0, 0)
noncomputable def P_r4_All_L3 (l9 : List (List Int)) (k_ : Int) : (Int × (List (List Int))) → Option (Stp (Int × (List (List Int))) (List (List Int))) := fun (n, next_2) =>
  if n < ([(-1)].length : Int) then
    el l9 k_ fun a43 =>
    el [(-1)] n fun a48 =>
    chk (([] : List Int).length + a43.length < 1000000000) (
      chk ((([] : List Int) ++ a43).length + [a48].length < 1000000000) (
        chk (next_2.length + [(([] : List Int) ++ a43) ++ [a48]].length < 1000000000) (
          chk (I64 (n + 1)) (
            some (Stp.ag ((n + 1), next_2 ++ [(([] : List Int) ++ a43) ++ [a48]]))))))
  else
    some (Stp.dn next_2)
noncomputable def P_r4_All_L2 (l9 : List (List Int)) : (Int × (List (List Int))) → Option (Stp (Int × (List (List Int))) (List (List Int))) := fun (k_, next) =>
  if k_ < (l9.length : Int) then
    andx (
      iter (P_r4_All_L3 l9 k_) (0, next)) fun next_2 =>
      chk (I64 (k_ + 1)) (
        some (Stp.ag ((k_ + 1), next_2)))
  else
    some (Stp.dn next)
noncomputable def P_r4_All_L5 (l9 : List (List Int)) (a20 : Item) (k_ : Int) : (Int × (List (List Int))) → Option (Stp (Int × (List (List Int))) (List (List Int))) := fun (n, next_2) =>
  if n < (a20.could.l.length : Int) then
    el l9 k_ fun a43 =>
    el a20.could.l n fun a48 =>
    chk (([] : List Int).length + a43.length < 1000000000) (
      chk ((([] : List Int) ++ a43).length + [a48].length < 1000000000) (
        chk (next_2.length + [(([] : List Int) ++ a43) ++ [a48]].length < 1000000000) (
          chk (I64 (n + 1)) (
            some (Stp.ag ((n + 1), next_2 ++ [(([] : List Int) ++ a43) ++ [a48]]))))))
  else
    some (Stp.dn next_2)
noncomputable def P_r4_All_L4 (l9 : List (List Int)) (a20 : Item) : (Int × (List (List Int))) → Option (Stp (Int × (List (List Int))) (List (List Int))) := fun (k_, next) =>
  if k_ < (l9.length : Int) then
    andx (
      iter (P_r4_All_L5 l9 a20 k_) (0, next)) fun next_2 =>
      chk (I64 (k_ + 1)) (
        some (Stp.ag ((k_ + 1), next_2)))
  else
    some (Stp.dn next)
noncomputable def P_r4_All_L1 (c_Items : List Item) : (Int × (List (List Int)) × Bool) → Option (Stp (Int × (List (List Int)) × Bool) ((List (List Int)) × Bool)) := fun (i, l9, z) =>
  if i < (c_Items.length : Int) then
    andx (
      el c_Items i fun a20 =>
      if (a20.could.l.length : Int) = 0 then
        andx (
          iter (P_r4_All_L2 l9) (0, ([] : List (List Int)))) fun next =>
          some next
      else
        andx (
          iter (P_r4_All_L4 l9 a20) (0, ([] : List (List Int)))) fun next =>
          some next) fun next =>
      chk (I64 (i + 1)) (
        some (Stp.ag ((i + 1), next, true)))
  else
    some (Stp.dn (l9, z))
noncomputable def P_r4_All (c_Book_Signed : Int) (c_Book_Gatherings : List Gat) (c_Items : List Item) : Option ((List (List Int)) × Bool) :=
  andx (
    iter (P_r4_All_L1 c_Items) (0, [([] : List Int)], false)) fun (l9, z) =>
    some (l9, z)
end Go.Am
end
section
namespace Go.Am.YthckcbfijdambaaGreat
open Go.Am Go.RowKit
set_option linter.unusedVariables false
set_option linter.unusedSimpArgs false
set_option maxRecDepth 10000 in
theorem tf_r4_Check {k : Nat} (hk : 4 ≤ k) {C : List Thing} {c_Book_Signed : Int} {v_c_Book_Gatherings : AV} {c_Book_Gatherings : List Gat} {v_c_Items : AV} {c_Items : List Item} (ht_c_Book_Gatherings : RdT encG v_c_Book_Gatherings c_Book_Gatherings) (ht_c_Items : RdT encIt v_c_Items c_Items) {r : Int × Int × Int} (h : P_r4_Check c_Book_Signed c_Book_Gatherings c_Items = some r) :
  TF (EL k) 29 [.agg [iv (c_Book_Signed), v_c_Book_Gatherings, v_c_Items]] C (RepF (fun (w : Unit) => .tuple [iv r.1, iv r.2.1, iv r.2.2]) (fun (w : Unit) => C)) := by
 unfold P_r4_Check at h
 have h_c_Book_Gatherings : Rdl C encG v_c_Book_Gatherings c_Book_Gatherings := RdT.rdl ht_c_Book_Gatherings
 have h_c_Items : Rdl C encIt v_c_Items c_Items := RdT.rdl ht_c_Items;refine TF.enter (fn := Go.Proofs.Tryz.f29) rfl rfl rfl rfl rfl (zU rfl (zQ 3 [_,_,_] R7 (fun b1=>zA R4 (zA R4 (zA R4 (zN (zU rfl (zF 0 R6 (zV R3 (vW 0 [_,_] R5 R4) ?_)))))))));obtain ⟨⟨part15, at_15, e15⟩, hr15, h⟩ := andx_some h;dsimp only at h;obtain ⟨g, hgg, hrg⟩ := Rdl.reif (hs := .row b1 3 [iv (c_Book_Signed), v_c_Book_Gatherings, v_c_Items] :: C) h_c_Book_Gatherings M1 (ReifL.flat encG_tr);refine TO.call rfl rfl rfl rfl rfl (orcL rfl aD) (.cons (.agg (.cons .lit (.cons (hrg _) .nil))) .nil) (sem_of (w_r1_Check c_Book_Signed g _ (by try rw [hgg]; exact hr15))) (zM R4 (zX R5 (zX R5 (zX R5 (zA R4 (zA R4 (zA R4 (zN ?_))))))))
 show T _ _ _ _ _ _;apply T.joinA (r := r) (W := Unit) (fun j w => ⟨[], [(1, .ptr b1 0 3), (7, iv (j))], .row b1 3 [iv (c_Book_Signed), v_c_Book_Gatherings, v_c_Items] :: C⟩) h
 ·intro j h
  show T _ _ _ _ _ _;apply T.joinA (r := j) (W := Unit) (fun j w => ⟨[], [(1, .ptr b1 0 3), (7, iv (e15)), (27, bv j)], .row b1 3 [iv (c_Book_Signed), v_c_Book_Gatherings, v_c_Items] :: C⟩) h
  ·intro j h;refine zT rfl (zM R4 ?_);obtain ⟨c20, hc20⟩ := zY (e15 = 0);refine zV R3 (Val.eql hc20 rfl rfl) (zM R4 ?_);obtain ⟨rfl, hc20, h⟩ | ⟨rfl, hc20, h⟩ := zI hc20 h
   ·refine zF 0 R6 (zV R3 (vW 0 [_,_] R5 R4) ?_);obtain ⟨all24, hr24, h⟩ := andx_some h;obtain ⟨g_2, hgg_2, hrg_2⟩ := Rdl.reif (hs := .row b1 3 [iv (c_Book_Signed), v_c_Book_Gatherings, v_c_Items] :: C) h_c_Book_Gatherings M1 (ReifL.flat encG_tr);refine TO.call rfl rfl rfl rfl rfl (orcL rfl aD) (.cons (.agg (.cons .lit (.cons (hrg_2 _) .nil))) .nil) (sem_of (w_r1_All c_Book_Signed g_2 _ (by try rw [hgg_2]; exact hr24))) (zV R3 (Val.len_gs rfl rfl) ?_);obtain ⟨c26, hc26⟩ := zY ((all24.length : Int) > 120);refine zV R3 (Val.gtr hc26 rfl rfl) (zP R6 (zN ?_));subst hc26;cases h;exact ⟨rfl, (), (sb .refl)⟩
   refine zO R3 (zO R3 (zO R3 (zO R3 (zO R3 (zP R6 (zN ?_))))));cases h;exact ⟨rfl, (), (sb .refl)⟩
  ·rintro x27 _ h;obtain ⟨rfl, h⟩ | ⟨rfl, h⟩ := zZ h
   ·refine zC rfl (zT rfl (zA R4 (zN ?_)));cases h;exact ⟨rfl, (), (sb .refl)⟩
   refine zD rfl (zK ?_);cases h;exact ⟨rfl, (), (sb .refl)⟩
 ·rintro e _ h;refine zS (zU rfl (zM R4 ?_));obtain ⟨c29, hc29⟩ := zY (¬ e = 0);refine zV R3 (Val.neq hc29 rfl rfl) (zN ?_);obtain ⟨rfl, hc29, h⟩ | ⟨rfl, hc29, h⟩ := zI hc29 h
  ·refine zC rfl (zU rfl (zM R4 (zA R4 (zA R4 (zA R4 (zN (zR ?_)))))));cases h;exact ⟨rfl, _, rfl, ⟨(), rfl, (pk [98] rfl)⟩⟩
  refine zD rfl (zK (zU rfl (zF 0 R6 (zV R3 (vW 0 [_,_] R5 R4) ?_))));obtain ⟨all33, hr33, h⟩ := andx_some h;obtain ⟨g_2, hgg_2, hrg_2⟩ := Rdl.reif (hs := .row b1 3 [iv (c_Book_Signed), v_c_Book_Gatherings, v_c_Items] :: C) h_c_Book_Gatherings M1 (ReifL.flat encG_tr);refine TO.call rfl rfl rfl rfl rfl (orcL rfl aD) (.cons (.agg (.cons .lit (.cons (hrg_2 _) .nil))) .nil) (sem_of (w_r1_All c_Book_Signed g_2 _ (by try rw [hgg_2]; exact hr33))) (zV R3 (Val.len_gs rfl rfl) (zA R4 (zN (zS (zU rfl (zF 2 R6 (zL 0 R3 R6 (zV R3 (Val.len_l h_c_Items M1 rfl rfl) ?_))))))));obtain ⟨c38, hc38⟩ := zY ((c_Items.length : Int) > 120);refine zV R3 (Val.gtr hc38 rfl rfl) (zN ?_);obtain ⟨rfl, hc38, h⟩ | ⟨rfl, hc38, h⟩ := zI hc38 h
  ·refine zC rfl (zU rfl (zA R4 (zA R4 (zA R4 (zN (zR ?_))))));cases h;exact ⟨rfl, _, rfl, ⟨(), rfl, (pk [98] rfl)⟩⟩
  refine zD rfl (zK ?_)
  show T _ _ _ _ _ _;apply T.join (r := r) (W := Unit) (fun j w => ⟨[], [(1, .ptr b1 0 3)], .row b1 3 [iv (c_Book_Signed), v_c_Book_Gatherings, v_c_Items] :: C⟩) h
  ·intro j h;refine zU rfl (zA R4 (zN (zB ?_)))
   show T _ _ _ _ _ _;apply T.iter (r := j) (W := Unit) (fun j w => ⟨[], [(1, .ptr b1 0 3), (8, iv ((all33.length : Int))), (9, iv (j))], .row b1 3 [iv (c_Book_Signed), v_c_Book_Gatherings, v_c_Items] :: C⟩) (w0 := ()) h
   ·exact (sb .refl)
   rintro i _ a h;unfold P_r4_Check_L1 at h;refine zS (zU rfl (zM R4 (zF 2 R6 (zL 0 R3 R6 (zV R3 (Val.len_l h_c_Items M1 rfl rfl) ?_)))));obtain ⟨c43, hc43⟩ := zY (i < (c_Items.length : Int));refine zV R3 (Val.lss hc43 rfl rfl) (zN ?_);obtain ⟨rfl, hc43, h⟩ | ⟨rfl, hc43, h⟩ := zI hc43 h
   ·refine zC rfl (zK (zS (zB (zU rfl (zF 2 R6 (zL 0 R3 R6 (zM R4 ?_)))))));obtain ⟨a49, hia49, ea49, h⟩ := el_some h;refine TO.fact (rdl_at h_c_Items M1 hia49 ea49) (fun hp=>?_);obtain ⟨pa49, hpa49, hva49⟩ := hp;refine zV R3 (hva49 ⟨rfl, rfl⟩ rfl rfl) (zV R3 (Val.load_es (c := [_]) hpa49 M1 ⟨⟨_, rfl, rfl⟩, rfl, by decide⟩ rfl rfl rfl) (zM R4 ?_));obtain ⟨y52, hr52, h⟩ := andx_some h;refine TO.callT (first := []) (cap := []) (vs := [.agg [a49.could.v], iv ((all33.length : Int))]) rfl rfl rfl rfl rfl rfl (orcN rfl) (tf_r4_item aD (Rdl.mono (Rdl.gs (C := C) a49.could) M1) hr52) ?_;rintro _;refine zG (_::C) rfl (zA R4 (zN (zU rfl (zM R4 ?_))));obtain ⟨c54, hc54⟩ := zY (¬ y52 = 0);refine zV R3 (Val.neq hc54 rfl rfl) (zN ?_);obtain ⟨rfl, hc54, h⟩ | ⟨rfl, hc54, h⟩ := zI hc54 h
    ·refine zC rfl (zU rfl (zM R4 (zM R4 (zA R4 (zA R4 (zA R4 (zN (zR ?_))))))));cases h;exact ⟨ret_ne, ⟨ret_ne, ⟨rfl, _, rfl, ⟨(), rfl, (pk [98] rfl)⟩⟩⟩⟩
    refine zD rfl (zK (zT rfl (zM R4 ?_)));obtain ⟨hk45, h⟩ := chk_some h;refine zV R3 (Val.add rfl rfl hk45) (zA R4 (zN ?_));cases h;exact ⟨rfl, (), (sb .refl)⟩
   refine zD rfl (zE ?_);cases h;exact ⟨ex_ne, ⟨rfl, (), (sb .refl)⟩⟩
  ·rintro _ _ h;refine zU rfl (zA R4 (zN ?_))
   show T _ _ _ _ _ _;apply T.join (r := r) (W := Unit) (fun j w => ⟨[], [], .row b1 3 [iv (c_Book_Signed), v_c_Book_Gatherings, v_c_Items] :: C⟩) h
   ·intro j h;refine zU rfl (zA R4 (zN (zB ?_)))
    show T _ _ _ _ _ _;apply T.iter (r := j) (W := Unit) (fun j w => ⟨[], [(1, .ptr b1 0 3), (10, iv (j.1)), (11, iv (j.2))], .row b1 3 [iv (c_Book_Signed), v_c_Book_Gatherings, v_c_Items] :: C⟩) (w0 := ()) h
    ·exact (sb .refl)
    rintro ⟨doubts, i⟩ _ a h;unfold P_r4_Check_L2 at h;dsimp only at h;dsimp only;refine zS (zU rfl (zM R4 (zF 2 R6 (zL 0 R3 R6 (zV R3 (Val.len_l h_c_Items M1 rfl rfl) ?_)))));obtain ⟨c61, hc61⟩ := zY (i < (c_Items.length : Int));refine zV R3 (Val.lss hc61 rfl rfl) (zN ?_);obtain ⟨rfl, hc61, h⟩ | ⟨rfl, hc61, h⟩ := zI hc61 h
    ·refine zC rfl (zK ?_)
     show T _ _ _ _ _ _;apply T.join (r := a) (W := Unit) (fun j w => ⟨[], [(1, .ptr b1 0 3), (10, iv (j)), (11, iv (i))], .row b1 3 [iv (c_Book_Signed), v_c_Book_Gatherings, v_c_Items] :: C⟩) h
     ·intro j h;refine zB ?_
      show T _ _ _ _ _ _;apply T.joinA (r := j) (W := Unit) (fun j w => ⟨[], [(1, .ptr b1 0 3), (10, iv (j)), (11, iv (i))], .row b1 3 [iv (c_Book_Signed), v_c_Book_Gatherings, v_c_Items] :: C⟩) h
      ·intro j h;refine zU rfl (zF 2 R6 (zL 0 R3 R6 (zM R4 ?_)));obtain ⟨a67, hia67, ea67, h⟩ := el_some h;refine TO.fact (rdl_at h_c_Items M1 hia67 ea67) (fun hp=>?_);obtain ⟨pa67, hpa67, hva67⟩ := hp;refine zV R3 (hva67 ⟨rfl, rfl⟩ rfl rfl) (zV R3 (Val.faddr_e (fo := 0) hpa67 rfl rfl rfl) (zV R3 (Val.load_e (PtE.add hpa67 (by decide)) M1 ⟨_, rfl, rfl⟩ rfl rfl) (zV R3 (Val.len_gs rfl rfl) ?_)));obtain ⟨c71, hc71⟩ := zY ((a67.could.l.length : Int) > 1);refine zV R3 (Val.gtr hc71 rfl rfl) (zN ?_);obtain ⟨rfl, hc71, h⟩ | ⟨rfl, hc71, h⟩ := zI hc71 h
       ·refine zC rfl (zT rfl (zM R4 ?_));obtain ⟨hk73, h⟩ := chk_some h;refine zV R3 (Val.add rfl rfl hk73) (zA R4 (zN ?_));cases h;exact ⟨rfl, (), (sb .refl)⟩
       refine zD rfl (zK ?_);cases h;exact ⟨rfl, (), (sb .refl)⟩
      ·rintro doubts_2 _ h;refine zU rfl (zM R4 ?_);obtain ⟨c75, hc75⟩ := zY (doubts_2 > 3);refine zV R3 (Val.gtr hc75 rfl rfl) (zN ?_);obtain ⟨rfl, hc75, h⟩ | ⟨rfl, hc75, h⟩ := zI hc75 h
       ·refine zC rfl (zU rfl (zM R4 (zA R4 (zA R4 (zA R4 (zN (zR ?_)))))));cases h;exact ⟨ret_ne, ⟨ret_ne, ⟨ret_ne, ⟨rfl, _, rfl, ⟨(), rfl, (pk [98] rfl)⟩⟩⟩⟩⟩
       refine zD rfl (zK ?_);cases h;exact ⟨rfl, (), (sb .refl)⟩
     ·rintro doubts_2 _ h;refine zT rfl (zM R4 ?_);obtain ⟨hk63, h⟩ := chk_some h;refine zV R3 (Val.add rfl rfl hk63) (zA R4 (zN ?_));cases h;exact ⟨rfl, (), (sb .refl)⟩
    refine zD rfl (zE ?_);cases h;exact ⟨ex_ne, ⟨rfl, (), (sb .refl)⟩⟩
   ·rintro _ _ h;refine zU rfl (zA R4 (zA R4 (zA R4 (zN (zR ?_)))));cases h;exact ⟨rfl, _, rfl, ⟨(), rfl, (pk [98] rfl)⟩⟩
theorem w_r4_Check (c_Book_Signed : Int) (c_Book_Gatherings : GS encG) (c_Items : GS encIt) (r : Int × Int × Int) (h : P_r4_Check c_Book_Signed c_Book_Gatherings.l c_Items.l = some r) : Comes (EL 4) 29 [.agg [iv (c_Book_Signed), c_Book_Gatherings.v, c_Items.v]] (.tuple [iv r.1, iv r.2.1, iv r.2.2]) :=
 TF.run (tf_r4_Check (Nat.le_refl _) (RdT.gs c_Book_Gatherings) (RdT.gs c_Items) h) fun w => (.tuple (.cons .lit (.cons .lit (.cons .lit .nil))))
set_option maxRecDepth 10000 in
theorem tf_r4_All {k : Nat} (hk : 0 ≤ k) {C : List Thing} {c_Book_Signed : Int} {v_c_Book_Gatherings : AV} {c_Book_Gatherings : List Gat} {v_c_Items : AV} {c_Items : List Item} (ht_c_Book_Gatherings : RdT encG v_c_Book_Gatherings c_Book_Gatherings) (ht_c_Items : RdT encIt v_c_Items c_Items) {r : (List (List Int)) × Bool} (h : P_r4_All c_Book_Signed c_Book_Gatherings c_Items = some r) :
  TF (EL k) 36 [.agg [iv (c_Book_Signed), v_c_Book_Gatherings, v_c_Items]] C (RepF (fun (w : AV × (List AV)) => w.1) (fun (w : AV × (List AV)) => nestH r.2 w.1 r.1 w.2 :: (seg encI w.2 r.1 ++ C))) := by
 unfold P_r4_All at h
 have h_c_Book_Gatherings : Rdl C encG v_c_Book_Gatherings c_Book_Gatherings := RdT.rdl ht_c_Book_Gatherings
 have h_c_Items : Rdl C encIt v_c_Items c_Items := RdT.rdl ht_c_Items;refine TF.enter (fn := Go.Proofs.Tryz.f36) rfl rfl rfl rfl rfl (zU rfl (zQ 3 [_,_,_] R7 (fun b1=>zA R4 (zN (zU rfl (TO.nilown (u := encI.u) (TO.fact (own_cellS (p := 0) rfl) (fun hot2=>TO.eff rfl rfl rfl (Eff.new (New.buildSlice (en := encAV) (l := [nilS]) (vs := [(_, _)]) (ws := [(_, [_])]) ⟨rfl, rfl⟩ rfl rfl rfl rfl (CellsL.cons hot2.1 CellsL.nil) rfl rfl)) ?_))))))));rintro _ _ ⟨v9_2, rfl, rfl⟩;refine TO.less (Less.rowOwn (en := encAV) (l := [nilS]) (p := 0) rfl) (zG (_::_::_::C) rfl (TO.less (Pk.less (Pk.pick (p := 0) rfl (Pk.pick (p := 1) rfl (Pk.pick (p := 0) rfl Pk.refl)))) (zG (_::_::(seg encI [nilS] [([] : List Int)] ++ C)) rfl (zA R4 (zN ?_)))))
 show T _ _ _ _ _ _;apply T.joinA (r := r) (W := AV × (List AV)) (fun j w => ⟨[], [(3, w.1)], nestH j.2 w.1 j.1 w.2 :: .row b1 3 [iv (c_Book_Signed), v_c_Book_Gatherings, v_c_Items] :: (seg encI w.2 j.1 ++ C)⟩) h
 ·intro j h;refine zU rfl (zA R4 (zN (zB ?_)))
  show T _ _ _ _ _ _;apply T.iter (r := j) (W := AV × (List AV)) (fun j w => ⟨[], [(1, .ptr b1 0 3), (3, w.1), (4, iv (j.1))], nestH j.2.2 w.1 j.2.1 w.2 :: .row b1 3 [iv (c_Book_Signed), v_c_Book_Gatherings, v_c_Items] :: (seg encI w.2 j.2.1 ++ C)⟩) (w0 := ((.slice v9_2 0 (List.flatMap encAV.f [nilS]).length true (List.length [nilS]) (List.length [nilS])), [nilS])) h
  ·exact (sb .refl)
  rintro ⟨i, l9, z⟩ ⟨vn4, wsn4⟩ a h;unfold P_r4_All_L1 at h;dsimp only at h;dsimp only;refine zS (zU rfl (zM R4 (zF 2 R6 (zL 1 R3 R6 (zV R3 (Val.len_l h_c_Items (memS (memS (memG mem0))) rfl rfl) ?_)))));obtain ⟨c14, hc14⟩ := zY (i < (c_Items.length : Int));refine zV R3 (Val.lss hc14 rfl rfl) (zN ?_);obtain ⟨rfl, hc14, h⟩ | ⟨rfl, hc14, h⟩ := zI hc14 h
  ·refine zC rfl (zK ?_)
   show T _ _ _ _ _ _;apply T.joinA (r := a) (W := AV × (List AV)) (fun j w => ⟨[], [(1, .ptr b1 0 3), (3, w.1), (4, iv (i))], nestH true w.1 j w.2 :: nestH z vn4 l9 wsn4 :: .row b1 3 [iv (c_Book_Signed), v_c_Book_Gatherings, v_c_Items] :: (seg encI w.2 j ++ (seg encI wsn4 l9 ++ C))⟩) h
   ·intro j h;refine zB (zU rfl (zF 2 R6 (zL 1 R3 R6 (zM R4 ?_))));obtain ⟨a20, hia20, ea20, h⟩ := el_some h;refine TO.fact (rdl_at h_c_Items (memS (memS (memG mem0))) hia20 ea20) (fun hp=>?_);obtain ⟨pa20, hpa20, hva20⟩ := hp;refine zV R3 (hva20 ⟨rfl, rfl⟩ rfl rfl) (zV R3 (Val.faddr_e (fo := 0) hpa20 rfl rfl rfl) (zV R3 (Val.load_e (PtE.add hpa20 (by decide)) (memS (memS (memG mem0))) ⟨_, rfl, rfl⟩ rfl rfl) (zA R4 (zN (zS (zU rfl (zM R4 (zV R3 (Val.len_gs rfl rfl) ?_))))))));obtain ⟨c25, hc25⟩ := zY ((a20.could.l.length : Int) = 0);refine zV R3 (Val.eql hc25 rfl rfl) (zN ?_);obtain ⟨rfl, hc25, h⟩ | ⟨rfl, hc25, h⟩ := zI hc25 h
    ·refine zC rfl (zT rfl (TO.build1 (en := encI) (a := (-1)) rfl rfl rfl ⟨rfl, rfl⟩ ⟨_, rfl, rfl⟩ (by decide) (by decide) rfl rfl (fun v26=>zA R4 (zN (zU rfl (zA R4 (zN ?_)))))))
     show T _ _ _ _ _ _;apply T.joinA (r := j) (W := AV × (List AV)) (fun j w => ⟨[], [(1, .ptr b1 0 3), (4, iv (i)), (6, w.1)], nestH true w.1 j w.2 :: ownL false v26 encI [(-1)] :: nestH z vn4 l9 wsn4 :: .row b1 3 [iv (c_Book_Signed), v_c_Book_Gatherings, v_c_Items] :: (seg encI w.2 j ++ (seg encI wsn4 l9 ++ C))⟩) h
     ·intro j h;refine zU rfl (zA R4 (zN (zB (T.nilown (u := 1) (T.things (hs' := nestH true nilS ([] : List (List Int)) [] :: ownL false v26 encI [(-1)] :: nestH z vn4 l9 wsn4 :: .row b1 3 [iv (c_Book_Signed), v_c_Book_Gatherings, v_c_Items] :: (seg encI [] ([] : List (List Int)) ++ (seg encI wsn4 l9 ++ C))) rfl ?_)))))
      show T _ _ _ _ _ _;apply T.iter (r := j) (W := AV × (List AV)) (fun j w => ⟨[], [(1, .ptr b1 0 3), (3, vn4), (4, iv (i)), (5, v26), (6, w.1), (7, iv (j.1))], nestH true w.1 j.2 w.2 :: ownL false v26 encI [(-1)] :: nestH z vn4 l9 wsn4 :: .row b1 3 [iv (c_Book_Signed), v_c_Book_Gatherings, v_c_Items] :: (seg encI w.2 j.2 ++ (seg encI wsn4 l9 ++ C))⟩) (w0 := (nilS, [])) h
      ·exact (sb .refl)
      rintro ⟨k_, next⟩ ⟨vn8, wsn8⟩ a h;unfold P_r4_All_L2 at h;dsimp only at h;dsimp only;refine zS (zU rfl (zM R4 (zM R4 (zV R3 (Val.len_nest (p := 2) rfl rfl rfl) ?_))));obtain ⟨c30, hc30⟩ := zY (k_ < (l9.length : Int));refine zV R3 (Val.lss hc30 rfl rfl) (zN ?_);obtain ⟨rfl, hc30, h⟩ | ⟨rfl, hc30, h⟩ := zI hc30 h
      ·refine zC rfl (zK ?_)
       show T _ _ _ _ _ _;apply T.joinA (r := a) (W := AV × (List AV)) (fun j w => ⟨[], [(1, .ptr b1 0 3), (3, vn4), (4, iv (i)), (5, v26), (6, w.1), (7, iv (k_))], nestH true w.1 j w.2 :: ownL false v26 encI [(-1)] :: nestH z vn4 l9 wsn4 :: .row b1 3 [iv (c_Book_Signed), v_c_Book_Gatherings, v_c_Items] :: (seg encI w.2 j ++ (seg encI wsn4 l9 ++ C))⟩) h
       ·intro j h;refine zB (zU rfl (zA R4 (zN (zB ?_))))
        show T _ _ _ _ _ _;apply T.iter (r := j) (W := AV × (List AV)) (fun j w => ⟨[], [(1, .ptr b1 0 3), (3, vn4), (4, iv (i)), (5, v26), (6, w.1), (7, iv (k_)), (8, iv (j.1))], nestH true w.1 j.2 w.2 :: ownL false v26 encI [(-1)] :: nestH z vn4 l9 wsn4 :: .row b1 3 [iv (c_Book_Signed), v_c_Book_Gatherings, v_c_Items] :: (seg encI w.2 j.2 ++ (seg encI wsn4 l9 ++ C))⟩) (w0 := (vn8, wsn8)) h
        ·exact (sb .refl)
        rintro ⟨n, next_2⟩ ⟨vn8_2, wsn8_2⟩ a h;unfold P_r4_All_L3 at h;dsimp only at h;dsimp only;refine zS (zU rfl (zM R4 (zM R4 (zV R3 (Val.len_own (p := 1) rfl rfl rfl) ?_))));obtain ⟨c36, hc36⟩ := zY (n < ([(-1)].length : Int));refine zV R3 (Val.lss hc36 rfl rfl) (zN ?_);obtain ⟨rfl, hc36, h⟩ | ⟨rfl, hc36, h⟩ := zI hc36 h
        ·refine zC rfl (zK (zS (zB (T.drawE (l1 := [0, 1, 2, 3, 4, 5, 7, 8, 9, 10, 11]) (l2 := [6, 12, 13, 14, 15]) (by kernel_rfl) (by kernel_rfl) (yL R4 (Val.move rfl) (TD1.floatN rfl rfl rfl rfl (New.buildSlice (en := encI) (l := ([] : List Int)) (vs := []) (ws := []) ⟨rfl, rfl⟩ rfl rfl rfl rfl CellsL.nil rfl rfl) (fun v40=>yL R4 (Val.move rfl) (yL R4 (Val.move rfl) ?_))))))));obtain ⟨a43, hia43, ea43, h⟩ := el_some h;refine TD1.fact (nest_at (en := encI) (p := 3) rfl hia43 ea43) (fun hp=>?_);obtain ⟨ida43, wa43, ata43, ewa43, hma43⟩ := hp;refine yL R4 (Val.iaddr_nest ata43 ⟨rfl, rfl⟩ rfl rfl hia43) (yR R4 (Val.load_nest (p := 3) rfl ata43 ⟨_, rfl, rfl⟩ rfl ewa43) ?_)
         have hna43 : Rdl (seg encI wsn8_2 next_2 ++ (seg encI wsn4 l9 ++ C)) encI wa43 a43 := .inr ⟨true, (List.mem_append_right _ (List.mem_append_left _ hma43))⟩;refine yL R4 (Val.move rfl) (yL R4 (Val.move rfl) ?_);obtain ⟨a48, hia48, ea48, h⟩ := el_some h;refine TD1.fact (own_at (en := encI) (p := 2) rfl hia48) (fun hp=>?_);obtain ⟨ida48, ata48⟩ := hp;refine yL R4 (Val.iaddr_at (en := encI) ata48 ⟨rfl, rfl⟩ rfl rfl hia48) (yR R4 (Val.load_ownL (en := encI) (p := 2) (j := 0) rfl ata48 ⟨_, rfl, rfl⟩ rfl ea48 rfl) (TD1.floatN rfl rfl rfl rfl (New.buildSlice (en := encI) (l := [a48]) (vs := [(_, _)]) (ws := [(_, [_])]) ⟨rfl, rfl⟩ rfl rfl rfl rfl (CellsL.cons rfl CellsL.nil) rfl rfl) (fun v50=>TD1.over (fun v => sameC_refl v) (all_cons (⟨_, rfl, (Val.load_ownL (en := encI) (p := 3) (j := 0) rfl ata48 ⟨_, rfl, rfl⟩ rfl ea48 rfl)⟩) (all_cons (⟨_, rfl, (Val.load_nest (p := 4) rfl ata43 ⟨_, rfl, rfl⟩ rfl ewa43)⟩) all_nil)) (TD2.less (Less.floatOwn (en := encI) (l := ([] : List Int)) (p := 1) rfl) (yG (_::_::_::_::_::_::(seg encI wsn8_2 next_2 ++ (seg encI wsn4 l9 ++ C))) rfl ?_)))));obtain ⟨hk45, h⟩ := chk_some h;refine TD2.heavy (fun v => sameC_refl v) rfl (by decide) rfl rfl (OpS.eff (Eff.append_l (b := 8) (en := encI) (l := ([] : List Int)) (p := 1) ⟨rfl, rfl, rfl, ⟨_, rfl, rfl⟩, by decide, by decide⟩ rfl rfl rfl hna43 M6 rfl rfl (flat_ones _) (by decide) hk45)) ?_;rintro v45 _ rfl;refine ⟨(all_cons (.inr ⟨_, rfl, (Val.load_ownL (en := encI) (p := 3) (j := 0) rfl ata48 ⟨_, rfl, rfl⟩ rfl ea48 rfl)⟩) (all_cons (.inl (by kernel_rfl)) all_nil)), (all_cons (.inr (by repeat first | exact List.mem_cons_self | apply List.mem_cons_of_mem)) (all_cons (.inl (by kernel_rfl)) all_nil)), ?_⟩;refine yG (_::_::_::_::_::_::(seg encI wsn8_2 next_2 ++ (seg encI wsn4 l9 ++ C))) rfl (TD2.less (Less.floatOwn (en := encI) (l := [a48]) (p := 0) rfl) (yG (_::_::_::_::_::_::(seg encI wsn8_2 next_2 ++ (seg encI wsn4 l9 ++ C))) rfl ?_));obtain ⟨hk51, h⟩ := chk_some h;refine TD2.heavy (fun v => sameC_refl v) rfl (by decide) rfl rfl (OpS.eff (Eff.append_own (b := 8) (en := encI) (l := (([] : List Int) ++ a43)) (l2 := [a48]) (p := 1) (q := 0) ⟨rfl, rfl, rfl, ⟨_, rfl, rfl⟩, by decide, by decide⟩ rfl rfl rfl rfl rfl rfl (flat_ones _) (by decide) hk51)) ?_;rintro v51 _ rfl;refine ⟨(all_cons (.inl (by kernel_rfl)) (all_cons (.inl (by kernel_rfl)) all_nil)), (all_cons (.inl (by kernel_rfl)) (all_cons (.inl (by kernel_rfl)) all_nil)), ?_⟩;refine yG (_::_::_::_::_::_::(seg encI wsn8_2 next_2 ++ (seg encI wsn4 l9 ++ C))) rfl (TD2.less (Less.ownTrue (p := 1) rfl (.inr (by simp))) (yG (_::_::_::_::_::_::(seg encI wsn8_2 next_2 ++ (seg encI wsn4 l9 ++ C))) rfl (TD2.fact (own_cellS (p := 1) rfl) (fun hot9=>TD2.heavy (fun v => sameC_refl v) rfl (by decide) rfl rfl (OpS.eff (Eff.new (New.buildSlice (en := encAV) (l := [v51]) (vs := [(_, _)]) (ws := [(_, [_])]) ⟨rfl, rfl⟩ rfl rfl rfl rfl (CellsL.cons hot9.1 CellsL.nil) rfl rfl))) ?_))));rintro _ _ ⟨v52_2, rfl, rfl⟩;refine ⟨(all_cons (.inl (by kernel_rfl)) (all_cons (.inl (by kernel_rfl)) all_nil)), (all_cons (.inl (by kernel_rfl)) (all_cons (.inl (by kernel_rfl)) all_nil)), ?_⟩
         refine TD2.less (Less.rowOwn (en := encAV) (l := [v51]) (p := 0) rfl) (yG (_::_::_::_::_::_::_::(seg encI wsn8_2 next_2 ++ (seg encI wsn4 l9 ++ C))) rfl (TD2.less (Pk.less (Pk.pick (p := 0) rfl (Pk.pick (p := 0) rfl (Pk.pick (p := 1) rfl (Pk.pick (p := 1) rfl (Pk.pick (p := 1) rfl (Pk.pick (p := 1) rfl (Pk.pick (p := 0) rfl Pk.refl)))))))) (yG (_::_::_::_::_::_::(seg encI [v51] [(([] : List Int) ++ a43) ++ [a48]] ++ (seg encI wsn8_2 next_2 ++ (seg encI wsn4 l9 ++ C)))) rfl ?_)));obtain ⟨hk53, h⟩ := chk_some h;refine TD2.fact (nest_len (p := 2) rfl) (fun hl53=>TD2.fact (nest_len (p := 0) rfl) (fun hm53=>TD2.heavy (fun v => sameC_refl v) rfl (by decide) rfl rfl (OpS.eff (Eff.append_nest (b := 24) (ls := next_2) (ls2 := [(([] : List Int) ++ a43) ++ [a48]]) (p := 2) (q := 0) ⟨rfl, rfl, rfl, ⟨_, rfl, rfl⟩, by decide, by decide⟩ rfl rfl rfl rfl rfl rfl (seg_ones (en := encI) hm53 (fun x hx => M6 x (List.mem_append_left _ hx))) (by decide) hk53)) ?_));rintro v53 _ rfl;refine ⟨(all_cons (.inl (by kernel_rfl)) (all_cons (.inl (by kernel_rfl)) all_nil)), (all_cons (.inl (by kernel_rfl)) (all_cons (.inl (by kernel_rfl)) all_nil)), ?_⟩;refine yG ([nestH false (.slice v52_2 0 (List.flatMap encAV.f [v51]).length true (List.length [v51]) (List.length [v51])) [(([] : List Int) ++ a43) ++ [a48]] [v51], ownL false (.slice v50 0 (List.flatMap encI.f [a48]).length true (List.length [a48]) (List.length [a48])) encI [a48], nestH true v53 (next_2 ++ [(([] : List Int) ++ a43) ++ [a48]]) (wsn8_2 ++ [v51]), ownL false v26 encI [(-1)], nestH z vn4 l9 wsn4, .row b1 3 [iv (c_Book_Signed), v_c_Book_Gatherings, v_c_Items]] ++ (seg encI [v51] [(([] : List Int) ++ a43) ++ [a48]] ++ (seg encI wsn8_2 next_2 ++ (seg encI wsn4 l9 ++ C)))) rfl (TD2.less (Less.cat [nestH false (.slice v52_2 0 (List.flatMap encAV.f [v51]).length true (List.length [v51]) (List.length [v51])) [(([] : List Int) ++ a43) ++ [a48]] [v51], ownL false (.slice v50 0 (List.flatMap encI.f [a48]).length true (List.length [a48]) (List.length [a48])) encI [a48], nestH true v53 (next_2 ++ [(([] : List Int) ++ a43) ++ [a48]]) (wsn8_2 ++ [v51]), ownL false v26 encI [(-1)], nestH z vn4 l9 wsn4, .row b1 3 [iv (c_Book_Signed), v_c_Book_Gatherings, v_c_Items]] hl53) (yG (_::_::_::_::_::_::(seg encI (wsn8_2 ++ [v51]) (next_2 ++ [(([] : List Int) ++ a43) ++ [a48]]) ++ (seg encI wsn4 l9 ++ C))) rfl ?_));refine yM R4 (Val.assign rfl) (TD2.nil (zT rfl (zM R4 ?_)));obtain ⟨hk38, h⟩ := chk_some h;refine zV R3 (Val.add rfl rfl hk38) (zA R4 (zN ?_));cases h;exact ⟨rfl, (v53, wsn8_2 ++ [v51]), (sb (pk [2,2,2,2,98,98] rfl))⟩
        refine zD rfl (zE ?_);cases h;exact ⟨ex_ne, ⟨rfl, (vn8_2, wsn8_2), (sb .refl)⟩⟩
       ·rintro next_2 ⟨vn8_2, wsn8_2⟩ h;dsimp only;refine zT rfl (zM R4 ?_);obtain ⟨hk32, h⟩ := chk_some h;refine zV R3 (Val.add rfl rfl hk32) (zA R4 (zN ?_));cases h;exact ⟨rfl, (vn8_2, wsn8_2), (sb .refl)⟩
      refine zD rfl (zE ?_);cases h;exact ⟨ex_ne, ⟨rfl, (vn8, wsn8), (sb .refl)⟩⟩
     ·rintro next ⟨vn8, wsn8⟩ h;dsimp only;refine zT rfl (zM R4 (zA R4 (zN ?_)));cases h;exact ⟨rfl, (vn8, wsn8), (sb (pk [0,1,1,98] rfl))⟩
    refine zD rfl (zK (zU rfl (zA R4 (zN ?_))))
    show T _ _ _ _ _ _;apply T.joinA (r := j) (W := AV × (List AV)) (fun j w => ⟨[], [(1, .ptr b1 0 3), (4, iv (i)), (6, w.1)], nestH true w.1 j w.2 :: nestH z vn4 l9 wsn4 :: .row b1 3 [iv (c_Book_Signed), v_c_Book_Gatherings, v_c_Items] :: (seg encI w.2 j ++ (seg encI wsn4 l9 ++ C))⟩) h
    ·intro j h;refine zU rfl (zA R4 (zN (zB (T.nilown (u := 1) (T.things (hs' := nestH true nilS ([] : List (List Int)) [] :: nestH z vn4 l9 wsn4 :: .row b1 3 [iv (c_Book_Signed), v_c_Book_Gatherings, v_c_Items] :: (seg encI [] ([] : List (List Int)) ++ (seg encI wsn4 l9 ++ C))) rfl ?_)))))
     show T _ _ _ _ _ _;apply T.iter (r := j) (W := AV × (List AV)) (fun j w => ⟨[], [(1, .ptr b1 0 3), (3, vn4), (4, iv (i)), (5, a20.could.v), (6, w.1), (7, iv (j.1))], nestH true w.1 j.2 w.2 :: nestH z vn4 l9 wsn4 :: .row b1 3 [iv (c_Book_Signed), v_c_Book_Gatherings, v_c_Items] :: (seg encI w.2 j.2 ++ (seg encI wsn4 l9 ++ C))⟩) (w0 := (nilS, [])) h
     ·exact (sb .refl)
     rintro ⟨k_, next⟩ ⟨vn14, wsn14⟩ a h;unfold P_r4_All_L4 at h;dsimp only at h;dsimp only;refine zS (zU rfl (zM R4 (zM R4 (zV R3 (Val.len_nest (p := 1) rfl rfl rfl) ?_))));obtain ⟨c30, hc30⟩ := zY (k_ < (l9.length : Int));refine zV R3 (Val.lss hc30 rfl rfl) (zN ?_);obtain ⟨rfl, hc30, h⟩ | ⟨rfl, hc30, h⟩ := zI hc30 h
     ·refine zC rfl (zK ?_)
      show T _ _ _ _ _ _;apply T.joinA (r := a) (W := AV × (List AV)) (fun j w => ⟨[], [(1, .ptr b1 0 3), (3, vn4), (4, iv (i)), (5, a20.could.v), (6, w.1), (7, iv (k_))], nestH true w.1 j w.2 :: nestH z vn4 l9 wsn4 :: .row b1 3 [iv (c_Book_Signed), v_c_Book_Gatherings, v_c_Items] :: (seg encI w.2 j ++ (seg encI wsn4 l9 ++ C))⟩) h
      ·intro j h;refine zB (zU rfl (zA R4 (zN (zB ?_))))
       show T _ _ _ _ _ _;apply T.iter (r := j) (W := AV × (List AV)) (fun j w => ⟨[], [(1, .ptr b1 0 3), (3, vn4), (4, iv (i)), (5, a20.could.v), (6, w.1), (7, iv (k_)), (8, iv (j.1))], nestH true w.1 j.2 w.2 :: nestH z vn4 l9 wsn4 :: .row b1 3 [iv (c_Book_Signed), v_c_Book_Gatherings, v_c_Items] :: (seg encI w.2 j.2 ++ (seg encI wsn4 l9 ++ C))⟩) (w0 := (vn14, wsn14)) h
       ·exact (sb .refl)
       rintro ⟨n, next_2⟩ ⟨vn14_2, wsn14_2⟩ a h;unfold P_r4_All_L5 at h;dsimp only at h;dsimp only;refine zS (zU rfl (zM R4 (zM R4 (zV R3 (Val.len_gs rfl rfl) ?_))));obtain ⟨c36, hc36⟩ := zY (n < (a20.could.l.length : Int));refine zV R3 (Val.lss hc36 rfl rfl) (zN ?_);obtain ⟨rfl, hc36, h⟩ | ⟨rfl, hc36, h⟩ := zI hc36 h
       ·refine zC rfl (zK (zS (zB (T.drawE (l1 := [0, 1, 2, 3, 4, 5, 7, 8, 9, 10, 11]) (l2 := [6, 12, 13, 14, 15]) (by kernel_rfl) (by kernel_rfl) (yL R4 (Val.move rfl) (TD1.floatN rfl rfl rfl rfl (New.buildSlice (en := encI) (l := ([] : List Int)) (vs := []) (ws := []) ⟨rfl, rfl⟩ rfl rfl rfl rfl CellsL.nil rfl rfl) (fun v40=>yL R4 (Val.move rfl) (yL R4 (Val.move rfl) ?_))))))));obtain ⟨a43, hia43, ea43, h⟩ := el_some h;refine TD1.fact (nest_at (en := encI) (p := 2) rfl hia43 ea43) (fun hp=>?_);obtain ⟨ida43, wa43, ata43, ewa43, hma43⟩ := hp;refine yL R4 (Val.iaddr_nest ata43 ⟨rfl, rfl⟩ rfl rfl hia43) (yR R4 (Val.load_nest (p := 2) rfl ata43 ⟨_, rfl, rfl⟩ rfl ewa43) ?_)
        have hna43 : Rdl (seg encI wsn14_2 next_2 ++ (seg encI wsn4 l9 ++ C)) encI wa43 a43 := .inr ⟨true, (List.mem_append_right _ (List.mem_append_left _ hma43))⟩;refine yL R4 (Val.move rfl) (yL R4 (Val.move rfl) ?_);obtain ⟨a48, hia48, ea48, h⟩ := el_some h;refine TD1.fact (rdl_at (Rdl.gs (C := C) a20.could) (memS (memS (memS (memS (memG (memG mem0)))))) hia48 ea48) (fun hp=>?_);obtain ⟨pa48, hpa48, hva48⟩ := hp;refine yL R4 (hva48 ⟨rfl, rfl⟩ rfl rfl) (yR R4 (Val.load_e hpa48 (memS (memS (memS (memS (memG (memG mem0)))))) ⟨_, rfl, rfl⟩ rfl rfl) (TD1.floatN rfl rfl rfl rfl (New.buildSlice (en := encI) (l := [a48]) (vs := [(_, _)]) (ws := [(_, [_])]) ⟨rfl, rfl⟩ rfl rfl rfl rfl (CellsL.cons rfl CellsL.nil) rfl rfl) (fun v50=>TD1.over (fun v => sameC_refl v) (all_cons (⟨_, rfl, (Val.load_e hpa48 (memS (memS (memS (memS (memS (memG (memG mem0))))))) ⟨_, rfl, rfl⟩ rfl rfl)⟩) (all_cons (⟨_, rfl, (Val.load_nest (p := 3) rfl ata43 ⟨_, rfl, rfl⟩ rfl ewa43)⟩) all_nil)) (TD2.less (Less.floatOwn (en := encI) (l := ([] : List Int)) (p := 1) rfl) (yG (_::_::_::_::_::(seg encI wsn14_2 next_2 ++ (seg encI wsn4 l9 ++ C))) rfl ?_)))));obtain ⟨hk45, h⟩ := chk_some h;refine TD2.heavy (fun v => sameC_refl v) rfl (by decide) rfl rfl (OpS.eff (Eff.append_l (b := 8) (en := encI) (l := ([] : List Int)) (p := 1) ⟨rfl, rfl, rfl, ⟨_, rfl, rfl⟩, by decide, by decide⟩ rfl rfl rfl hna43 M5 rfl rfl (flat_ones _) (by decide) hk45)) ?_;rintro v45 _ rfl;refine ⟨(all_cons (.inr ⟨_, rfl, (Val.load_e hpa48 (memS (memS (memS (memS (memS (memG (memG mem0))))))) ⟨_, rfl, rfl⟩ rfl rfl)⟩) (all_cons (.inl (by kernel_rfl)) all_nil)), (all_cons (.inr (by repeat first | exact List.mem_cons_self | apply List.mem_cons_of_mem)) (all_cons (.inl (by kernel_rfl)) all_nil)), ?_⟩;refine yG (_::_::_::_::_::(seg encI wsn14_2 next_2 ++ (seg encI wsn4 l9 ++ C))) rfl (TD2.less (Less.floatOwn (en := encI) (l := [a48]) (p := 0) rfl) (yG (_::_::_::_::_::(seg encI wsn14_2 next_2 ++ (seg encI wsn4 l9 ++ C))) rfl ?_));obtain ⟨hk51, h⟩ := chk_some h;refine TD2.heavy (fun v => sameC_refl v) rfl (by decide) rfl rfl (OpS.eff (Eff.append_own (b := 8) (en := encI) (l := (([] : List Int) ++ a43)) (l2 := [a48]) (p := 1) (q := 0) ⟨rfl, rfl, rfl, ⟨_, rfl, rfl⟩, by decide, by decide⟩ rfl rfl rfl rfl rfl rfl (flat_ones _) (by decide) hk51)) ?_;rintro v51 _ rfl;refine ⟨(all_cons (.inl (by kernel_rfl)) (all_cons (.inl (by kernel_rfl)) all_nil)), (all_cons (.inl (by kernel_rfl)) (all_cons (.inl (by kernel_rfl)) all_nil)), ?_⟩;refine yG (_::_::_::_::_::(seg encI wsn14_2 next_2 ++ (seg encI wsn4 l9 ++ C))) rfl (TD2.less (Less.ownTrue (p := 1) rfl (.inr (by simp))) (yG (_::_::_::_::_::(seg encI wsn14_2 next_2 ++ (seg encI wsn4 l9 ++ C))) rfl (TD2.fact (own_cellS (p := 1) rfl) (fun hot15=>TD2.heavy (fun v => sameC_refl v) rfl (by decide) rfl rfl (OpS.eff (Eff.new (New.buildSlice (en := encAV) (l := [v51]) (vs := [(_, _)]) (ws := [(_, [_])]) ⟨rfl, rfl⟩ rfl rfl rfl rfl (CellsL.cons hot15.1 CellsL.nil) rfl rfl))) ?_))));rintro _ _ ⟨v52_2, rfl, rfl⟩
        refine ⟨(all_cons (.inl (by kernel_rfl)) (all_cons (.inl (by kernel_rfl)) all_nil)), (all_cons (.inl (by kernel_rfl)) (all_cons (.inl (by kernel_rfl)) all_nil)), ?_⟩;refine TD2.less (Less.rowOwn (en := encAV) (l := [v51]) (p := 0) rfl) (yG (_::_::_::_::_::_::(seg encI wsn14_2 next_2 ++ (seg encI wsn4 l9 ++ C))) rfl (TD2.less (Pk.less (Pk.pick (p := 0) rfl (Pk.pick (p := 0) rfl (Pk.pick (p := 1) rfl (Pk.pick (p := 1) rfl (Pk.pick (p := 1) rfl (Pk.pick (p := 0) rfl Pk.refl))))))) (yG (_::_::_::_::_::(seg encI [v51] [(([] : List Int) ++ a43) ++ [a48]] ++ (seg encI wsn14_2 next_2 ++ (seg encI wsn4 l9 ++ C)))) rfl ?_)));obtain ⟨hk53, h⟩ := chk_some h;refine TD2.fact (nest_len (p := 2) rfl) (fun hl53=>TD2.fact (nest_len (p := 0) rfl) (fun hm53=>TD2.heavy (fun v => sameC_refl v) rfl (by decide) rfl rfl (OpS.eff (Eff.append_nest (b := 24) (ls := next_2) (ls2 := [(([] : List Int) ++ a43) ++ [a48]]) (p := 2) (q := 0) ⟨rfl, rfl, rfl, ⟨_, rfl, rfl⟩, by decide, by decide⟩ rfl rfl rfl rfl rfl rfl (seg_ones (en := encI) hm53 (fun x hx => M5 x (List.mem_append_left _ hx))) (by decide) hk53)) ?_));rintro v53 _ rfl;refine ⟨(all_cons (.inl (by kernel_rfl)) (all_cons (.inl (by kernel_rfl)) all_nil)), (all_cons (.inl (by kernel_rfl)) (all_cons (.inl (by kernel_rfl)) all_nil)), ?_⟩;refine yG ([nestH false (.slice v52_2 0 (List.flatMap encAV.f [v51]).length true (List.length [v51]) (List.length [v51])) [(([] : List Int) ++ a43) ++ [a48]] [v51], ownL false (.slice v50 0 (List.flatMap encI.f [a48]).length true (List.length [a48]) (List.length [a48])) encI [a48], nestH true v53 (next_2 ++ [(([] : List Int) ++ a43) ++ [a48]]) (wsn14_2 ++ [v51]), nestH z vn4 l9 wsn4, .row b1 3 [iv (c_Book_Signed), v_c_Book_Gatherings, v_c_Items]] ++ (seg encI [v51] [(([] : List Int) ++ a43) ++ [a48]] ++ (seg encI wsn14_2 next_2 ++ (seg encI wsn4 l9 ++ C)))) rfl (TD2.less (Less.cat [nestH false (.slice v52_2 0 (List.flatMap encAV.f [v51]).length true (List.length [v51]) (List.length [v51])) [(([] : List Int) ++ a43) ++ [a48]] [v51], ownL false (.slice v50 0 (List.flatMap encI.f [a48]).length true (List.length [a48]) (List.length [a48])) encI [a48], nestH true v53 (next_2 ++ [(([] : List Int) ++ a43) ++ [a48]]) (wsn14_2 ++ [v51]), nestH z vn4 l9 wsn4, .row b1 3 [iv (c_Book_Signed), v_c_Book_Gatherings, v_c_Items]] hl53) (yG (_::_::_::_::_::(seg encI (wsn14_2 ++ [v51]) (next_2 ++ [(([] : List Int) ++ a43) ++ [a48]]) ++ (seg encI wsn4 l9 ++ C))) rfl (yM R4 (Val.assign rfl) (TD2.nil (zT rfl (zM R4 ?_))))));obtain ⟨hk38, h⟩ := chk_some h;refine zV R3 (Val.add rfl rfl hk38) (zA R4 (zN ?_));cases h;exact ⟨rfl, (v53, wsn14_2 ++ [v51]), (sb (pk [2,2,2,98,98] rfl))⟩
       refine zD rfl (zE ?_);cases h;exact ⟨ex_ne, ⟨rfl, (vn14_2, wsn14_2), (sb .refl)⟩⟩
      ·rintro next_2 ⟨vn14_2, wsn14_2⟩ h;dsimp only;refine zT rfl (zM R4 ?_);obtain ⟨hk32, h⟩ := chk_some h;refine zV R3 (Val.add rfl rfl hk32) (zA R4 (zN ?_));cases h;exact ⟨rfl, (vn14_2, wsn14_2), (sb .refl)⟩
     refine zD rfl (zE ?_);cases h;exact ⟨ex_ne, ⟨rfl, (vn14, wsn14), (sb .refl)⟩⟩
    ·rintro next ⟨vn14, wsn14⟩ h;dsimp only;refine zT rfl (zM R4 (zA R4 (zN ?_)));cases h;exact ⟨rfl, (vn14, wsn14), (sb .refl)⟩
   ·rintro next ⟨vn8, wsn8⟩ h;dsimp only;refine zT rfl (zM R4 ?_);obtain ⟨hk16, h⟩ := chk_some h;refine zV R3 (Val.add rfl rfl hk16) (zA R4 (zN ?_));cases h;exact ⟨rfl, (vn8, wsn8), (sb (.pick (p := 0) rfl (.pick (p := 1) rfl (.drop (.consA (.dropA .refl))))))⟩
  refine zD rfl (zE ?_);cases h;exact ⟨ex_ne, ⟨rfl, (vn4, wsn4), (sb .refl)⟩⟩
 ·rintro ⟨l9, z⟩ ⟨vn4, wsn4⟩ h;dsimp only at h;dsimp only;refine zU rfl (zM R4 (zA R4 (zN (zR ?_))));cases h;exact ⟨rfl, _, rfl, ⟨(vn4, wsn4), rfl, (pk [0,98] rfl)⟩⟩
theorem w_r4_All (c_Book_Signed : Int) (c_Book_Gatherings : GS encG) (c_Items : GS encIt) (r : (List (List Int)) × Bool) (h : P_r4_All c_Book_Signed c_Book_Gatherings.l c_Items.l = some r) : Comes (EL 0) 36 [.agg [iv (c_Book_Signed), c_Book_Gatherings.v, c_Items.v]] ((GSo r.2 (encSl encI) (List.map (GSo true encI) r.1)).v) :=
 TF.run (tf_r4_All (Nat.le_refl _) (RdT.gs c_Book_Gatherings) (RdT.gs c_Items) h) fun w => (.nest (p := 0) encI_lits rfl (fun x hx => M1 x (List.mem_append_left _ hx)))
end Go.Am.YthckcbfijdambaaGreat
end
section
namespace Go.Am
set_option linter.unusedVariables false
end Go.Am
end
section
namespace Go.Am.YthckcbfijdambaaGreat
open Go.Am Go.RowKit
set_option linter.unusedVariables false
set_option linter.unusedSimpArgs false
end Go.Am.YthckcbfijdambaaGreat
end
section
namespace Go.Am
set_option linter.unusedVariables false
noncomputable def P_r4_Wide_L1 (c_Book_Signed : Int) (c_Book_Gatherings : List Gat) (y8 : List (List Int)) (y8_2 : Bool) : (Int × Int × Int) → Option (Stp (Int × Int × Int) (Int × Int)) := fun (i, s_Lo, s_Hi) =>
  if i < (((GSo y8_2 (encSl encI) (List.map (GSo true encI) y8)).l).length : Int) then
    el ((GSo y8_2 (encSl encI) (List.map (GSo true encI) y8)).l) i fun a29 =>
    andx (P_r4_Of c_Book_Signed c_Book_Gatherings a29.l) fun (y31, y31_2, y31_3, y31_4, y31_5, y31_6, y31_7) =>
      chk (I64 (i + 1)) (
        some (Stp.ag ((i + 1), (min s_Lo y31_7), (max s_Hi y31_7))))
  else
    some (Stp.dn (s_Lo, s_Hi))
noncomputable def P_r4_Wide (c_Book_Signed : Int) (c_Book_Gatherings : List Gat) (c_Items : List Item) : Option (Int × Int) :=
  andx (P_r4_All c_Book_Signed c_Book_Gatherings c_Items) fun (y8, y8_2) =>
    el ((GSo y8_2 (encSl encI) (List.map (GSo true encI) y8)).l) 0 fun a12 =>
    andx (P_r4_Of c_Book_Signed c_Book_Gatherings a12.l) fun (y14, y14_2, y14_3, y14_4, y14_5, y14_6, y14_7) =>
      andx (
        iter (P_r4_Wide_L1 c_Book_Signed c_Book_Gatherings y8 y8_2) (1, y14_7, y14_7)) fun (s_Lo, s_Hi) =>
        some (s_Lo, s_Hi)
noncomputable def P_r4_Lost_L1 (c_Book_Signed : Int) (c_Book_Gatherings : List Gat) (y23 : List (List Int)) (y23_2 : Bool) : (Int × (List (List Int))) → Option (Stp (Int × (List (List Int))) (List (List Int))) := fun (i, lists) =>
  if i < (((GSo y23_2 (encSl encI) (List.map (GSo true encI) y23)).l).length : Int) then
    el ((GSo y23_2 (encSl encI) (List.map (GSo true encI) y23)).l) i fun a35 =>
    andx (P_r4_Gone c_Book_Signed c_Book_Gatherings a35.l) fun y37 =>
      chk (lists.length + [y37].length < 1000000000) (
        chk (I64 (i + 1)) (
          some (Stp.ag ((i + 1), lists ++ [y37]))))
  else
    some (Stp.dn lists)
noncomputable def P_r4_Lost_L3 (lists : List (List Int)) (n : Int) : (Int × Int) → Option (Stp (Int × Int) Int) := fun (many, i) =>
  if i < (lists.length : Int) then
    andx (
      el lists i fun a24 =>
      andx (P_r1_Has a24 n) fun has27 =>
        if has27 = true then
          chk (I64 (many + 1)) (
            some (many + 1))
        else
          some many) fun many_2 =>
      chk (I64 (i + 1)) (
        some (Stp.ag (many_2, (i + 1))))
  else
    some (Stp.dn many)
noncomputable def P_r4_Lost_L2 (lists : List (List Int)) (all44 : List Leaf) : (Int × (List Int) × (List Int)) → Option (Stp (Int × (List Int) × (List Int)) ((List Int) × (List Int))) := fun (n, sure, may) =>
  if n < (all44.length : Int) then
    andx (
      andx (
        iter (P_r4_Lost_L3 lists n) (0, 0)) fun many =>
        andx (
          if many = (lists.length : Int) then
            chk (sure.length + [n].length < 1000000000) (
              some (sure ++ [n]))
          else
            some sure) fun sure_2 =>
          if many > 0 then
            chk (may.length + [n].length < 1000000000) (
              some (sure_2, may ++ [n]))
          else
            some (sure_2, may)) fun (sure_2, may_2) =>
      chk (I64 (n + 1)) (
        some (Stp.ag ((n + 1), sure_2, may_2)))
  else
    some (Stp.dn (sure, may))
noncomputable def P_r4_Lost (c_Book_Signed : Int) (c_Book_Gatherings : List Gat) (c_Items : List Item) : Option ((List Int) × (List Int) × Int) :=
  andx (P_r4_Check c_Book_Signed c_Book_Gatherings c_Items) fun (y15, y15_2, y15_3) =>
    if ¬ y15_3 = 0 then
      some ([], [], y15_3)
    else
      andx (P_r4_All c_Book_Signed c_Book_Gatherings c_Items) fun (y23, y23_2) =>
        andx (
          iter (P_r4_Lost_L1 c_Book_Signed c_Book_Gatherings y23 y23_2) (0, ([] : List (List Int)))) fun lists =>
          andx (P_r1_All c_Book_Signed c_Book_Gatherings) fun all44 =>
            andx (
              andx (
                iter (P_r4_Lost_L2 lists all44) (0, [], [])) fun (sure, may) =>
                some (sure, may)) fun (sure, may) =>
              some (sure, may, 0)
noncomputable def P_r4_Loose_L1 (c_Book_Signed : Int) (c_Book_Gatherings : List Gat) (y23 : List (List Int)) (y23_2 : Bool) : (Int × (List (List Int))) → Option (Stp (Int × (List (List Int))) (List (List Int))) := fun (i, lists) =>
  if i < (((GSo y23_2 (encSl encI) (List.map (GSo true encI) y23)).l).length : Int) then
    el ((GSo y23_2 (encSl encI) (List.map (GSo true encI) y23)).l) i fun a35 =>
    andx (P_r4_Free c_Book_Signed c_Book_Gatherings a35.l) fun y37 =>
      chk (lists.length + [y37].length < 1000000000) (
        chk (I64 (i + 1)) (
          some (Stp.ag ((i + 1), lists ++ [y37]))))
  else
    some (Stp.dn lists)
noncomputable def P_r4_Loose_L3 (lists : List (List Int)) (n : Int) : (Int × Int) → Option (Stp (Int × Int) Int) := fun (many, i) =>
  if i < (lists.length : Int) then
    andx (
      el lists i fun a24 =>
      andx (P_r1_Has a24 n) fun has27 =>
        if has27 = true then
          chk (I64 (many + 1)) (
            some (many + 1))
        else
          some many) fun many_2 =>
      chk (I64 (i + 1)) (
        some (Stp.ag (many_2, (i + 1))))
  else
    some (Stp.dn many)
noncomputable def P_r4_Loose_L2 (lists : List (List Int)) (all44 : List Leaf) : (Int × (List Int) × (List Int)) → Option (Stp (Int × (List Int) × (List Int)) ((List Int) × (List Int))) := fun (n, sure, may) =>
  if n < (all44.length : Int) then
    andx (
      andx (
        iter (P_r4_Loose_L3 lists n) (0, 0)) fun many =>
        andx (
          if many = (lists.length : Int) then
            chk (sure.length + [n].length < 1000000000) (
              some (sure ++ [n]))
          else
            some sure) fun sure_2 =>
          if many > 0 then
            chk (may.length + [n].length < 1000000000) (
              some (sure_2, may ++ [n]))
          else
            some (sure_2, may)) fun (sure_2, may_2) =>
      chk (I64 (n + 1)) (
        some (Stp.ag ((n + 1), sure_2, may_2)))
  else
    some (Stp.dn (sure, may))
noncomputable def P_r4_Loose (c_Book_Signed : Int) (c_Book_Gatherings : List Gat) (c_Items : List Item) : Option ((List Int) × (List Int) × Int) :=
  andx (P_r4_Check c_Book_Signed c_Book_Gatherings c_Items) fun (y15, y15_2, y15_3) =>
    if ¬ y15_3 = 0 then
      some ([], [], y15_3)
    else
      andx (P_r4_All c_Book_Signed c_Book_Gatherings c_Items) fun (y23, y23_2) =>
        andx (
          iter (P_r4_Loose_L1 c_Book_Signed c_Book_Gatherings y23 y23_2) (0, ([] : List (List Int)))) fun lists =>
          andx (P_r1_All c_Book_Signed c_Book_Gatherings) fun all44 =>
            andx (
              andx (
                iter (P_r4_Loose_L2 lists all44) (0, [], [])) fun (sure, may) =>
                some (sure, may)) fun (sure, may) =>
              some (sure, may, 0)
noncomputable def P_c_Ask_L2 (c_Book_Gatherings : List Gat) (c_Items : List Item) (y16_2 : Int) (y16_3 : GS encL) (y16_4 : List Int) (x27 : Int) (a30 : Item) : (Int × Int) → Option (Stp (Int × Int) Int) := fun (worst, x39) =>
  if x39 < (a30.could.l.length : Int) then
    andx (
      chk (0 < c_Items.length) (
        chk (([] : List Item).length + c_Items.length < 1000000000) (
          some (([] : List Item) ++ c_Items)))) fun l5 =>
      chk (I64 (x39 + 1)) (
        chk (0 ≤ x39 ∧ x39 ≤ (x39 + 1) ∧ (x39 + 1) ≤ (a30.could.l.length : Int)) (
          chk (x39 < (x39 + 1)) (
            el l5 x27 fun a60 =>
            andx (P_c_wide y16_2 c_Book_Gatherings (List.set l5 x27.toNat (⟨(GSo true encI (List.take ((x39 + 1) - x39).toNat (List.drop (x39 : Int).toNat a30.could.l)))⟩ : Item)) y16_3.l y16_4) fun (y62, y62_2) =>
              chk (I64 (y62_2 - y62)) (
                chk (I64 (x39 + 1)) (
                  some (Stp.ag ((max worst (y62_2 - y62)), (x39 + 1))))))))
  else
    some (Stp.dn worst)
noncomputable def P_c_Ask_L1 (c_Book_Gatherings : List Gat) (c_Items : List Item) (y16_2 : Int) (y16_3 : GS encL) (y16_4 : List Int) : (Int × Int × Int) → Option (Stp (Int × Int × Int) (Int × Int)) := fun (item, best, x27) =>
  if x27 < (c_Items.length : Int) then
    andx (
      el c_Items x27 fun a30 =>
      if (a30.could.l.length : Int) < 2 then
        some (item, best)
      else
        andx (
          iter (P_c_Ask_L2 c_Book_Gatherings c_Items y16_2 y16_3 y16_4 x27 a30) (0, 0)) fun worst =>
          andx (
            if best < 0 then
              some true
            else
              some (decide (worst < best))) fun x77 =>
            if x77 = true then
              some (x27, worst)
            else
              some (item, best)) fun (item_2, best_2) =>
      chk (I64 (x27 + 1)) (
        some (Stp.ag (item_2, best_2, (x27 + 1))))
  else
    some (Stp.dn (item, best))
noncomputable def P_c_Ask (c_Book_Signed : Int) (c_Book_Gatherings : List Gat) (c_Items : List Item) : Option (Int × Int) :=
  andx (P_c_open c_Book_Signed c_Book_Gatherings c_Items) fun y =>
    match y with
    | .inl (y16_2, y16_3, y16_4) =>
      chk (¬ y16_4 = 0) (
        some (0, y16_4))
    | .inr (y16_2, y16_3, y16_4, y16_5, y16_6, y16_7) =>
      chk (y16_7 = 0) (
        andx (
          iter (P_c_Ask_L1 c_Book_Gatherings c_Items y16_2 y16_3 y16_4) (0, (-1), 0)) fun (item, best) =>
          if best < 0 then
            some (0, 4)
          else
            some (item, 0))
noncomputable def P_r4_Worst_L1 (c_Book_Signed : Int) (c_Book_Gatherings : List Gat) (c_Items : List Item) (item : Int) : (Int × Int) → Option (Stp (Int × Int) Int) := fun (n, i) =>
  el c_Items item fun a12 =>
  if i < (a12.could.l.length : Int) then
    el c_Items item fun a24 =>
    el a24.could.l i fun a28 =>
    andx (
      chk (([] : List Item).length + c_Items.length < 1000000000) (
        el (([] : List Item) ++ c_Items) item fun a18 =>
        some (c_Book_Signed, [a28], ([] : List Item) ++ c_Items, item.toNat))) fun (y30, l16, b6_Book_Signed, i_2) =>
      andx (P_r4_Wide y30 c_Book_Gatherings (List.set b6_Book_Signed i_2 (⟨GSo false encI l16⟩ : Item))) fun (y31, y31_2) =>
        chk (I64 (y31_2 - y31)) (
          chk (I64 (i + 1)) (
            some (Stp.ag ((max n (y31_2 - y31)), (i + 1)))))
  else
    some (Stp.dn n)
noncomputable def P_r4_Worst (c_Book_Signed : Int) (c_Book_Gatherings : List Gat) (c_Items : List Item) (item : Int) : Option Int :=
  andx (
    iter (P_r4_Worst_L1 c_Book_Signed c_Book_Gatherings c_Items item) (0, 0)) fun n =>
    some n
noncomputable def P_r4_Ask_L1 (c_Book_Signed : Int) (c_Book_Gatherings : List Gat) (c_Items : List Item) : (Int × Int) → Option (Stp (Int × Int) Int) := fun (best, i) =>
  if i < (c_Items.length : Int) then
    andx (
      andx (
        el c_Items i fun a28 =>
        if (a28.could.l.length : Int) > 1 then
          if best < 0 then
            some true
          else
            andx (P_r4_Worst c_Book_Signed c_Book_Gatherings c_Items i) fun y39 =>
              andx (P_r4_Worst c_Book_Signed c_Book_Gatherings c_Items best) fun y42 =>
                some (decide (y39 < y42))
        else
          some false) fun x45 =>
        if x45 = true then
          some i
        else
          some best) fun best_2 =>
      chk (I64 (i + 1)) (
        some (Stp.ag (best_2, (i + 1))))
  else
    some (Stp.dn best)
noncomputable def P_r4_Ask (c_Book_Signed : Int) (c_Book_Gatherings : List Gat) (c_Items : List Item) : Option (Int × Int) :=
  andx (P_r4_Check c_Book_Signed c_Book_Gatherings c_Items) fun (y11, y11_2, y11_3) =>
    if ¬ y11_3 = 0 then
      some (0, y11_3)
    else
      andx (
        iter (P_r4_Ask_L1 c_Book_Signed c_Book_Gatherings c_Items) ((-1), 0)) fun best =>
        if best < 0 then
          some (0, 4)
        else
          some (best, 0)
end Go.Am
end
section
namespace Go.Am.YthckcbfijdambaaGreat
open Go.Am Go.RowKit
set_option linter.unusedVariables false
set_option linter.unusedSimpArgs false
set_option maxRecDepth 10000 in
theorem tf_r4_Wide {k : Nat} (hk : 3 ≤ k) {C : List Thing} {c_Book_Signed : Int} {v_c_Book_Gatherings : AV} {c_Book_Gatherings : List Gat} {v_c_Items : AV} {c_Items : List Item} (ht_c_Book_Gatherings : RdT encG v_c_Book_Gatherings c_Book_Gatherings) (ht_c_Items : RdT encIt v_c_Items c_Items) {r : Int × Int} (h : P_r4_Wide c_Book_Signed c_Book_Gatherings c_Items = some r) :
  TF (EL k) 58 [.agg [iv (c_Book_Signed), v_c_Book_Gatherings, v_c_Items]] C (RepF (fun (w : Unit) => .agg [iv r.1, iv r.2]) (fun (w : Unit) => C)) := by
 unfold P_r4_Wide at h
 have h_c_Book_Gatherings : Rdl C encG v_c_Book_Gatherings c_Book_Gatherings := RdT.rdl ht_c_Book_Gatherings
 have h_c_Items : Rdl C encIt v_c_Items c_Items := RdT.rdl ht_c_Items;refine TF.enterG (fn := Go.Proofs.Tryz.f58) rfl rfl rfl rfl rfl (zU rfl (zQ 3 [_,_,_] R7 (fun b1=>zJ 2 [_,_] R7 (fun b2=>zN (zU rfl (zV R3 (vW 1 [_,_,_] R5 R4) ?_))))));obtain ⟨⟨y8, y8_2⟩, hr8, h⟩ := andx_some h;dsimp only at h;obtain ⟨g, hgg, hrg⟩ := Rdl.reif (hs := .row b2 2 [iv (0), iv (0)] :: .row b1 3 [iv (c_Book_Signed), v_c_Book_Gatherings, v_c_Items] :: C) h_c_Book_Gatherings M2 (ReifL.flat encG_tr);obtain ⟨g_2, hgg_2, hrg_2⟩ := Rdl.reif (hs := .row b2 2 [iv (0), iv (0)] :: .row b1 3 [iv (c_Book_Signed), v_c_Book_Gatherings, v_c_Items] :: C) h_c_Items M2 (ReifL.flat encIt_tr);refine TO.call rfl rfl rfl rfl rfl (orcL rfl aD) (.cons (.agg (.cons .lit (.cons (hrg _) (.cons (hrg_2 _) .nil)))) .nil) (sem_of (w_r4_All c_Book_Signed g g_2 _ (by try rw [hgg]; try rw [hgg_2]; exact hr8))) (zA R4 (zN (zS (T.drawE (l1 := [0, 1, 2, 3, 4]) (l2 := [5, 6, 7]) (by kernel_rfl) (by kernel_rfl) (yL R4 (Val.faddr_ptr (fo := 0) rfl rfl rfl) (yR R4 (vW 1 [_,_] R5 R4) (yL R4 (Val.move rfl) ?_)))))));obtain ⟨a12, hia12, ea12, h⟩ := el_some h;refine TD1.fact (rdl_at (Rdl.gs (C := C) (GSo y8_2 (encSl encI) (List.map (GSo true encI) y8))) M2 hia12 ea12) (fun hp=>?_);obtain ⟨pa12, hpa12, hva12⟩ := hp;refine yL R4 (hva12 ⟨rfl, rfl⟩ rfl rfl) (yR R4 (Val.load_e hpa12 M2 ⟨_, rfl, rfl⟩ rfl rfl) (TD1.over (fun v => sameC_refl v) (all_cons (⟨_, rfl, (Val.load_e hpa12 M2 ⟨_, rfl, rfl⟩ rfl rfl)⟩) (all_cons (⟨_, rfl, (vW 1 [_,_] R5 R4)⟩) all_nil)) ?_));obtain ⟨⟨y14, y14_2, y14_3, y14_4, y14_5, y14_6, y14_7⟩, hr14, h⟩ := andx_some h;dsimp only at h;refine TD2.heavy (fun v => sameC_refl v) rfl (by decide) rfl rfl (OpS.callV rfl rfl rfl rfl (orcN rfl) (RepF.conv (tf_r4_Of aD (Rdl.mono h_c_Book_Gatherings M2) (Rdl.mono (Rdl.gs (C := C) a12) M2) hr14))) ?_;rintro _ _ ⟨⟨w14, w14_2, w14_3, w14_4, w14_5⟩, rfl, rfl⟩;refine ⟨(all_cons (.inl (by kernel_rfl)) (all_cons (.inl (by kernel_rfl)) all_nil)), all_nil, ?_⟩;refine yG (_::_::_::_::_::_::_::C) rfl (yM R4 (Val.field (k := 0) rfl rfl rfl rfl rfl) (yM R4 (Val.assign rfl) (TD2.nil (zU rfl (zM R4 (zM R4 (zV R3 (Val.buildC (cs := [_, _]) (vs := [(_, _), (_, _)]) (ws := [(_, [_]), (_, [_])]) rfl rfl (CellsL.cons rfl (CellsL.cons rfl CellsL.nil)) rfl) (zJ 2 [_,_] R7 (fun b5=>TO.eff0 rfl rfl (Eff.store_row (p := 0) (cv := [_, _]) (cells' := [_, _]) rfl rfl rfl rfl rfl rfl rfl rfl aG (by decide) rfl) ?_)))))))));rintro _ rfl;refine zG (_::_::_::_::_::_::_::_::C) rfl (zN ?_)
 show T _ _ _ _ _ _;apply T.joinA (r := r) (W := Unit) (fun j w => ⟨[], [(2, .ptr b2 0 2), (5, .ptr b5 0 2)], .row b5 2 [iv (j.1), iv (j.2)] :: .row b2 2 [iv (0), iv (0)] :: .row b1 3 [iv (c_Book_Signed), v_c_Book_Gatherings, v_c_Items] :: C⟩) h
 ·intro j h;refine zU rfl (zA R4 (zN (zB ?_)))
  show T _ _ _ _ _ _;apply T.iter (r := j) (W := Unit) (fun j w => ⟨[], [(1, .ptr b1 0 3), (2, .ptr b2 0 2), (3, (GSo y8_2 (encSl encI) (List.map (GSo true encI) y8)).v), (5, .ptr b5 0 2), (6, iv (j.1))], .row b5 2 [iv (j.2.1), iv (j.2.2)] :: .row b2 2 [iv (0), iv (0)] :: .row b1 3 [iv (c_Book_Signed), v_c_Book_Gatherings, v_c_Items] :: C⟩) (w0 := ()) h
  ·exact (sb (pk [0,5,5,98,98,98,98,98] rfl))
  rintro ⟨i, s_Lo, s_Hi⟩ _ a h;unfold P_r4_Wide_L1 at h;dsimp only at h;dsimp only;refine zS (zU rfl (zM R4 (zM R4 (zV R3 (Val.len_gs rfl rfl) ?_))));obtain ⟨c22, hc22⟩ := zY (i < (((GSo y8_2 (encSl encI) (List.map (GSo true encI) y8)).l).length : Int));refine zV R3 (Val.lss hc22 rfl rfl) (zN ?_);obtain ⟨rfl, hc22, h⟩ | ⟨rfl, hc22, h⟩ := zI hc22 h
  ·refine zC rfl (zK (zS (zB (zS (T.drawE (l1 := [0, 1, 2, 3, 4, 5]) (l2 := [6, 7, 8]) (by kernel_rfl) (by kernel_rfl) (yL R4 (Val.faddr_ptr (fo := 0) rfl rfl rfl) (yR R4 (vW 2 [_,_] R5 R4) (yL R4 (Val.move rfl) (yL R4 (Val.move rfl) ?_)))))))));obtain ⟨a29, hia29, ea29, h⟩ := el_some h;refine TD1.fact (rdl_at (Rdl.gs (C := C) (GSo y8_2 (encSl encI) (List.map (GSo true encI) y8))) M3 hia29 ea29) (fun hp=>?_);obtain ⟨pa29, hpa29, hva29⟩ := hp;refine yL R4 (hva29 ⟨rfl, rfl⟩ rfl rfl) (yR R4 (Val.load_e hpa29 M3 ⟨_, rfl, rfl⟩ rfl rfl) (TD1.over (fun v => sameC_refl v) (all_cons (⟨_, rfl, (Val.load_e hpa29 M3 ⟨_, rfl, rfl⟩ rfl rfl)⟩) (all_cons (⟨_, rfl, (vW 2 [_,_] R5 R4)⟩) all_nil)) ?_));obtain ⟨⟨y31, y31_2, y31_3, y31_4, y31_5, y31_6, y31_7⟩, hr31, h⟩ := andx_some h;dsimp only at h;refine TD2.heavy (fun v => sameC_refl v) rfl (by decide) rfl rfl (OpS.callV rfl rfl rfl rfl (orcN rfl) (RepF.conv (tf_r4_Of aD (Rdl.mono h_c_Book_Gatherings M3) (Rdl.mono (Rdl.gs (C := C) a29) M3) hr31))) ?_;rintro _ _ ⟨⟨w31, w31_2, w31_3, w31_4, w31_5⟩, rfl, rfl⟩;refine ⟨(all_cons (.inl (by kernel_rfl)) (all_cons (.inl (by kernel_rfl)) all_nil)), all_nil, ?_⟩;refine yG (_::_::_::_::_::_::_::_::C) rfl (yM R4 (Val.field (k := 0) rfl rfl rfl rfl rfl) (yM R4 (Val.assign rfl) (TD2.nil (zT rfl (zF 0 R6 (zL 5 R3 R6 (zM R4 (zV R3 (Val.bmin rfl rfl) (zF 1 R6 (zL 5 R3 R6 (zM R4 (zV R3 (Val.bmax rfl rfl) (zV R3 (Val.buildC (cs := [_, _]) (vs := [(_, _), (_, _)]) (ws := [(_, [_]), (_, [_])]) rfl rfl (CellsL.cons rfl (CellsL.cons rfl CellsL.nil)) rfl) (TO.eff0 rfl rfl (Eff.store_row (p := 5) (cv := [_, _]) (cells' := [_, _]) rfl rfl rfl rfl rfl rfl rfl rfl aG (by decide) rfl) ?_))))))))))))));rintro _ rfl;refine zG (_::_::_::_::_::_::_::_::C) rfl (zN (zT rfl (zM R4 ?_)));obtain ⟨hk24, h⟩ := chk_some h;refine zV R3 (Val.add rfl rfl hk24) (zA R4 (zN ?_));cases h;exact ⟨rfl, (), (sb (pk [5,5,5,98,98,98,98,98] rfl))⟩
  refine zD rfl (zE ?_);cases h;exact ⟨ex_ne, ⟨rfl, (), (sb .refl)⟩⟩
 ·rintro ⟨s_Lo, s_Hi⟩ _ h;dsimp only at h;dsimp only;refine zU rfl (zV R3 (vW 0 [_,_] R5 R4) (TO.eff0 rfl rfl (Eff.store_row (p := 1) (cv := [_, _]) (cells' := [_, _]) rfl rfl rfl rfl rfl rfl rfl rfl aG (by decide) rfl) ?_));rintro _ rfl;refine zG (_::_::_::C) rfl (zN (zR ?_));cases h;exact ⟨rfl, _, rfl, [_], ⟨⟨_, rfl, LoadR.rows (p := 1) (c := [_, _]) rfl ⟨⟨_, rfl, rfl⟩, rfl, by decide⟩ rfl rfl rfl⟩, trivial⟩, ⟨(), rfl, (pk [98,98,98] rfl)⟩⟩
theorem w_r4_Wide (c_Book_Signed : Int) (c_Book_Gatherings : GS encG) (c_Items : GS encIt) (r : Int × Int) (h : P_r4_Wide c_Book_Signed c_Book_Gatherings.l c_Items.l = some r) : Comes (EL 3) 58 [.agg [iv (c_Book_Signed), c_Book_Gatherings.v, c_Items.v]] (.agg [iv r.1, iv r.2]) :=
 TF.run (tf_r4_Wide (Nat.le_refl _) (RdT.gs c_Book_Gatherings) (RdT.gs c_Items) h) fun w => (.agg (.cons .lit (.cons .lit .nil)))
set_option maxRecDepth 10000 in
theorem tf_r4_Lost {k : Nat} (hk : 5 ≤ k) {C : List Thing} {c_Book_Signed : Int} {v_c_Book_Gatherings : AV} {c_Book_Gatherings : List Gat} {v_c_Items : AV} {c_Items : List Item} (ht_c_Book_Gatherings : RdT encG v_c_Book_Gatherings c_Book_Gatherings) (ht_c_Items : RdT encIt v_c_Items c_Items) {r : (List Int) × (List Int) × Int} (h : P_r4_Lost c_Book_Signed c_Book_Gatherings c_Items = some r) :
  TF (EL k) 8 [.agg [iv (c_Book_Signed), v_c_Book_Gatherings, v_c_Items]] C (RepF (fun (w : AV × AV) => .tuple [w.1, w.2, iv r.2.2]) (fun (w : AV × AV) => ownL true w.1 encI r.1 :: ownL true w.2 encI r.2.1 :: C)) := by
 unfold P_r4_Lost at h
 have h_c_Book_Gatherings : Rdl C encG v_c_Book_Gatherings c_Book_Gatherings := RdT.rdl ht_c_Book_Gatherings
 have h_c_Items : Rdl C encIt v_c_Items c_Items := RdT.rdl ht_c_Items;refine TF.enter (fn := Go.Proofs.Tryz.f8) rfl rfl rfl rfl rfl (zU rfl (zQ 3 [_,_,_] R7 (fun b1=>zA R4 (zA R4 (zA R4 (zN (zU rfl (zV R3 (vW 0 [_,_,_] R5 R4) ?_))))))));obtain ⟨⟨y15, y15_2, y15_3⟩, hr15, h⟩ := andx_some h;dsimp only at h;obtain ⟨g, hgg, hrg⟩ := Rdl.reif (hs := .row b1 3 [iv (c_Book_Signed), v_c_Book_Gatherings, v_c_Items] :: C) h_c_Book_Gatherings M1 (ReifL.flat encG_tr);obtain ⟨g_2, hgg_2, hrg_2⟩ := Rdl.reif (hs := .row b1 3 [iv (c_Book_Signed), v_c_Book_Gatherings, v_c_Items] :: C) h_c_Items M1 (ReifL.flat encIt_tr);refine TO.call rfl rfl rfl rfl rfl (orcL rfl aD) (.cons (.agg (.cons .lit (.cons (hrg _) (.cons (hrg_2 _) .nil)))) .nil) (sem_of (w_r4_Check c_Book_Signed g g_2 _ (by try rw [hgg]; try rw [hgg_2]; exact hr15))) (zM R4 (zX R5 (zX R5 (zX R5 (zA R4 (zA R4 (zA R4 (zN (zS (zU rfl (zM R4 ?_)))))))))));obtain ⟨c20, hc20⟩ := zY (¬ y15_3 = 0);refine zV R3 (Val.neq hc20 rfl rfl) (zN ?_);obtain ⟨rfl, hc20, h⟩ | ⟨rfl, hc20, h⟩ := zI hc20 h
 ·refine zC rfl (zU rfl (zM R4 (zA R4 (zA R4 (zA R4 (zN (T.nilown (u := encI.u) (T.nilown (u := encI.u) (zR ?_)))))))));cases h;exact ⟨rfl, _, rfl, ⟨(nilS, nilS), rfl, (pk [1,0,98] rfl)⟩⟩
 refine zD rfl (zK (zU rfl (zV R3 (vW 0 [_,_,_] R5 R4) ?_)));obtain ⟨⟨y23, y23_2⟩, hr23, h⟩ := andx_some h;dsimp only at h;obtain ⟨g_3, hgg_3, hrg_3⟩ := Rdl.reif (hs := .row b1 3 [iv (c_Book_Signed), v_c_Book_Gatherings, v_c_Items] :: C) h_c_Book_Gatherings M1 (ReifL.flat encG_tr);obtain ⟨g_4, hgg_4, hrg_4⟩ := Rdl.reif (hs := .row b1 3 [iv (c_Book_Signed), v_c_Book_Gatherings, v_c_Items] :: C) h_c_Items M1 (ReifL.flat encIt_tr);refine TO.call rfl rfl rfl rfl rfl (orcL rfl aD) (.cons (.agg (.cons .lit (.cons (hrg_3 _) (.cons (hrg_4 _) .nil)))) .nil) (sem_of (w_r4_All c_Book_Signed g_3 g_4 _ (by try rw [hgg_3]; try rw [hgg_4]; exact hr23))) (zA R4 (zN (zU rfl (zA R4 (zN ?_)))))
 show T _ _ _ _ _ _;apply T.joinA (r := r) (W := AV × (List AV)) (fun j w => ⟨[], [(1, .ptr b1 0 3), (9, w.1)], nestH true w.1 j w.2 :: .row b1 3 [iv (c_Book_Signed), v_c_Book_Gatherings, v_c_Items] :: (seg encI w.2 j ++ C)⟩) h
 ·intro j h;refine zU rfl (zA R4 (zN (zB (T.nilown (u := 1) (T.things (hs' := nestH true nilS ([] : List (List Int)) [] :: .row b1 3 [iv (c_Book_Signed), v_c_Book_Gatherings, v_c_Items] :: (seg encI [] ([] : List (List Int)) ++ C)) rfl ?_)))))
  show T _ _ _ _ _ _;apply T.iter (r := j) (W := AV × (List AV)) (fun j w => ⟨[], [(1, .ptr b1 0 3), (8, (GSo y23_2 (encSl encI) (List.map (GSo true encI) y23)).v), (9, w.1), (10, iv (j.1))], nestH true w.1 j.2 w.2 :: .row b1 3 [iv (c_Book_Signed), v_c_Book_Gatherings, v_c_Items] :: (seg encI w.2 j.2 ++ C)⟩) (w0 := (nilS, [])) h
  ·exact (sb .refl)
  rintro ⟨i, lists⟩ ⟨vn4, wsn4⟩ a h;unfold P_r4_Lost_L1 at h;dsimp only at h;dsimp only;refine zS (zU rfl (zM R4 (zM R4 (zV R3 (Val.len_gs rfl rfl) ?_))));obtain ⟨c27, hc27⟩ := zY (i < (((GSo y23_2 (encSl encI) (List.map (GSo true encI) y23)).l).length : Int));refine zV R3 (Val.lss hc27 rfl rfl) (zN ?_);obtain ⟨rfl, hc27, h⟩ | ⟨rfl, hc27, h⟩ := zI hc27 h
  ·refine zC rfl (zK (zS (zB (T.drawE (l1 := [0, 1, 2, 3, 4, 5, 6]) (l2 := [7, 8, 9, 10]) (by kernel_rfl) (by kernel_rfl) (yL R4 (Val.move rfl) (yL R4 (Val.faddr_ptr (fo := 0) rfl rfl rfl) (yR R4 (vW 1 [_,_] R5 R4) (yL R4 (Val.move rfl) (yL R4 (Val.move rfl) ?_)))))))));obtain ⟨a35, hia35, ea35, h⟩ := el_some h;refine TD1.fact (rdl_at (Rdl.gs (C := C) (GSo y23_2 (encSl encI) (List.map (GSo true encI) y23))) (memS (memS (memG mem0))) hia35 ea35) (fun hp=>?_);obtain ⟨pa35, hpa35, hva35⟩ := hp;refine yL R4 (hva35 ⟨rfl, rfl⟩ rfl rfl) (yR R4 (Val.load_e hpa35 (memS (memS (memG mem0))) ⟨_, rfl, rfl⟩ rfl rfl) (TD1.over (fun v => sameC_refl v) (all_cons (⟨_, rfl, (Val.load_e hpa35 (memS (memS (memG mem0))) ⟨_, rfl, rfl⟩ rfl rfl)⟩) (all_cons (⟨_, rfl, (vW 1 [_,_] R5 R4)⟩) all_nil)) ?_));obtain ⟨y37, hr37, h⟩ := andx_some h;refine TD2.heavy (fun v => sameC_refl v) rfl (by decide) rfl rfl (OpS.callV rfl rfl rfl rfl (orcN rfl) (RepF.conv (tf_r4_Gone aD (Rdl.mono h_c_Book_Gatherings (memS (memS (memG mem0)))) (Rdl.mono (Rdl.gs (C := C) a35) (memS (memS (memG mem0)))) hr37))) ?_;rintro w37 _ ⟨w37, rfl, rfl⟩;refine ⟨(all_cons (.inl (by kernel_rfl)) (all_cons (.inl (by kernel_rfl)) all_nil)), all_nil, ?_⟩;refine yG (_::_::_::(seg encI wsn4 lists ++ C)) rfl (TD2.fact (own_cellS (p := 0) rfl) (fun hot5=>TD2.heavy (fun v => sameC_refl v) rfl (by decide) rfl rfl (OpS.eff (Eff.new (New.buildSlice (en := encAV) (l := [w37]) (vs := [(_, _)]) (ws := [(_, [_])]) ⟨rfl, rfl⟩ rfl rfl rfl rfl (CellsL.cons hot5.1 CellsL.nil) rfl rfl))) ?_));rintro _ _ ⟨v38_2, rfl, rfl⟩;refine ⟨(all_cons (.inl (by kernel_rfl)) (all_cons (.inl (by kernel_rfl)) all_nil)), all_nil, ?_⟩;refine TD2.less (Less.rowOwn (en := encAV) (l := [w37]) (p := 0) rfl) (yG (_::_::_::_::(seg encI wsn4 lists ++ C)) rfl (TD2.less (Pk.less (Pk.pick (p := 0) rfl (Pk.pick (p := 1) rfl (Pk.pick (p := 1) rfl (Pk.pick (p := 0) rfl Pk.refl))))) (yG (_::_::_::(seg encI [w37] [y37] ++ (seg encI wsn4 lists ++ C))) rfl ?_)));obtain ⟨hk39, h⟩ := chk_some h;refine TD2.fact (nest_len (p := 1) rfl) (fun hl39=>TD2.fact (nest_len (p := 0) rfl) (fun hm39=>TD2.heavy (fun v => sameC_refl v) rfl (by decide) rfl rfl (OpS.eff (Eff.append_nest (b := 24) (ls := lists) (ls2 := [y37]) (p := 1) (q := 0) ⟨rfl, rfl, rfl, ⟨_, rfl, rfl⟩, by decide, by decide⟩ rfl rfl rfl rfl rfl rfl (seg_ones (en := encI) hm39 (fun x hx => M3 x (List.mem_append_left _ hx))) (by decide) hk39)) ?_));rintro v39 _ rfl;refine ⟨(all_cons (.inl (by kernel_rfl)) (all_cons (.inl (by kernel_rfl)) all_nil)), all_nil, ?_⟩;refine yG ([nestH false (.slice v38_2 0 (List.flatMap encAV.f [w37]).length true (List.length [w37]) (List.length [w37])) [y37] [w37], nestH true v39 (lists ++ [y37]) (wsn4 ++ [w37]), .row b1 3 [iv (c_Book_Signed), v_c_Book_Gatherings, v_c_Items]] ++ (seg encI [w37] [y37] ++ (seg encI wsn4 lists ++ C))) rfl (TD2.less (Less.cat [nestH false (.slice v38_2 0 (List.flatMap encAV.f [w37]).length true (List.length [w37]) (List.length [w37])) [y37] [w37], nestH true v39 (lists ++ [y37]) (wsn4 ++ [w37]), .row b1 3 [iv (c_Book_Signed), v_c_Book_Gatherings, v_c_Items]] hl39) (yG (_::_::_::(seg encI (wsn4 ++ [w37]) (lists ++ [y37]) ++ C)) rfl (yM R4 (Val.assign rfl) (TD2.nil (zT rfl (zM R4 ?_))))))
   obtain ⟨hk29, h⟩ := chk_some h;refine zV R3 (Val.add rfl rfl hk29) (zA R4 (zN ?_));cases h;exact ⟨rfl, (v39, wsn4 ++ [w37]), (sb (pk [1,1,98] rfl))⟩
  refine zD rfl (zE ?_);cases h;exact ⟨ex_ne, ⟨rfl, (vn4, wsn4), (sb .refl)⟩⟩
 ·rintro lists ⟨vn4, wsn4⟩ h;dsimp only;refine zU rfl (zM R4 (zF 0 R6 (zV R3 (vW 1 [_,_] R5 R4) ?_)));obtain ⟨all44, hr44, h⟩ := andx_some h;obtain ⟨g_5, hgg_5, hrg_5⟩ := Rdl.reif (hs := nestH true vn4 lists wsn4 :: .row b1 3 [iv (c_Book_Signed), v_c_Book_Gatherings, v_c_Items] :: (seg encI wsn4 lists ++ C)) h_c_Book_Gatherings (memS (memS (memG mem0))) (ReifL.flat encG_tr);refine TO.call rfl rfl rfl rfl rfl (orcL rfl aD) (.cons (.agg (.cons .lit (.cons (hrg_5 _) .nil))) .nil) (sem_of (w_r1_All c_Book_Signed g_5 _ (by try rw [hgg_5]; exact hr44))) (zV R3 (Val.len_gs rfl rfl) ?_);refine TO.callJ (W := AV × AV) (fun (j : (List Int) × (List Int)) (w : AV × AV) => .tuple [w.1, w.2]) (fun (j : (List Int) × (List Int)) (w : AV × AV) => ownL true w.1 encI j.1 :: ownL true w.2 encI j.2 :: nestH true vn4 lists wsn4 :: .row b1 3 [iv (c_Book_Signed), v_c_Book_Gatherings, v_c_Items] :: (seg encI wsn4 lists ++ C)) h rfl rfl rfl rfl rfl rfl (orcN rfl) ?_ ?_
  ·intro j h;refine TF.enter (fn := Go.Proofs.Tryz.f37) rfl rfl rfl rfl rfl (zU rfl (zA R4 (zA R4 (zN (zU rfl (zA R4 (zA R4 (zN ?_))))))))
   show T _ _ _ _ _ _;apply T.joinA (r := j) (W := AV × AV) (fun j w => ⟨[], [(6, w.1), (7, w.2)], ownL true w.1 encI j.1 :: ownL true w.2 encI j.2 :: nestH true vn4 lists wsn4 :: .row b1 3 [iv (c_Book_Signed), v_c_Book_Gatherings, v_c_Items] :: (seg encI wsn4 lists ++ C)⟩) h
   ·intro j h;refine zU rfl (zA R4 (zN (zB (T.nilown (u := encI.u) (T.nilown (u := encI.u) ?_)))))
    show T _ _ _ _ _ _;apply T.iter (r := j) (W := AV × AV) (fun j w => ⟨[], [(0, vn4), (1, iv ((all44.length : Int))), (6, w.1), (7, w.2), (8, iv (j.1))], ownL true w.1 encI j.2.1 :: ownL true w.2 encI j.2.2 :: nestH true vn4 lists wsn4 :: .row b1 3 [iv (c_Book_Signed), v_c_Book_Gatherings, v_c_Items] :: (seg encI wsn4 lists ++ C)⟩) (w0 := (nilS, nilS)) h
    ·exact (sb .refl)
    rintro ⟨n, sure, may⟩ ⟨v10, v9⟩ a h;unfold P_r4_Lost_L2 at h;dsimp only at h;dsimp only;refine zS (zU rfl (zM R4 (zM R4 ?_)));obtain ⟨c13, hc13⟩ := zY (n < (all44.length : Int));refine zV R3 (Val.lss hc13 rfl rfl) (zN ?_);obtain ⟨rfl, hc13, h⟩ | ⟨rfl, hc13, h⟩ := zI hc13 h
    ·refine zC rfl (zK ?_)
     show T _ _ _ _ _ _;apply T.joinA (r := a) (W := AV × AV) (fun j w => ⟨[], [(0, vn4), (1, iv ((all44.length : Int))), (6, w.1), (7, w.2), (8, iv (n))], ownL true w.1 encI j.1 :: ownL true w.2 encI j.2 :: nestH true vn4 lists wsn4 :: .row b1 3 [iv (c_Book_Signed), v_c_Book_Gatherings, v_c_Items] :: (seg encI wsn4 lists ++ C)⟩) h
     ·intro j h;refine zB (zU rfl (zA R4 (zN ?_)))
      show T _ _ _ _ _ _;apply T.joinA (r := j) (W := Unit) (fun j w => ⟨[], [(0, vn4), (1, iv ((all44.length : Int))), (6, v10), (7, v9), (8, iv (n)), (9, iv (j))], ownL true v10 encI sure :: ownL true v9 encI may :: nestH true vn4 lists wsn4 :: .row b1 3 [iv (c_Book_Signed), v_c_Book_Gatherings, v_c_Items] :: (seg encI wsn4 lists ++ C)⟩) h
      ·intro j h;refine zU rfl (zA R4 (zN (zB ?_)))
       show T _ _ _ _ _ _;apply T.iter (r := j) (W := Unit) (fun j w => ⟨[], [(0, vn4), (1, iv ((all44.length : Int))), (6, v10), (7, v9), (8, iv (n)), (9, iv (j.1)), (10, iv (j.2))], ownL true v10 encI sure :: ownL true v9 encI may :: nestH true vn4 lists wsn4 :: .row b1 3 [iv (c_Book_Signed), v_c_Book_Gatherings, v_c_Items] :: (seg encI wsn4 lists ++ C)⟩) (w0 := ()) h
       ·exact (sb .refl)
       rintro ⟨many, i⟩ _ a h;unfold P_r4_Lost_L3 at h;dsimp only at h;dsimp only;refine zS (zU rfl (zM R4 (zM R4 (zV R3 (Val.len_nest (p := 2) rfl rfl rfl) ?_))));obtain ⟨c19, hc19⟩ := zY (i < (lists.length : Int));refine zV R3 (Val.lss hc19 rfl rfl) (zN ?_);obtain ⟨rfl, hc19, h⟩ | ⟨rfl, hc19, h⟩ := zI hc19 h
       ·refine zC rfl (zK ?_)
        show T _ _ _ _ _ _;apply T.joinA (r := a) (W := Unit) (fun j w => ⟨[], [(0, vn4), (1, iv ((all44.length : Int))), (6, v10), (7, v9), (8, iv (n)), (9, iv (j)), (10, iv (i))], ownL true v10 encI sure :: ownL true v9 encI may :: nestH true vn4 lists wsn4 :: .row b1 3 [iv (c_Book_Signed), v_c_Book_Gatherings, v_c_Items] :: (seg encI wsn4 lists ++ C)⟩) h
        ·intro j h;refine zB (zU rfl (zM R4 (zM R4 ?_)));obtain ⟨a24, hia24, ea24, h⟩ := el_some h;refine TO.fact (nest_at (en := encI) (p := 2) rfl hia24 ea24) (fun hp=>?_);obtain ⟨ida24, wa24, ata24, ewa24, hma24⟩ := hp;refine zV R3 (Val.iaddr_nest ata24 ⟨rfl, rfl⟩ rfl rfl hia24) (zV R3 (Val.load_nest (p := 2) rfl ata24 ⟨_, rfl, rfl⟩ rfl ewa24) ?_)
         have hna24 : Rdl (seg encI wsn4 lists ++ C) encI wa24 a24 := .inr ⟨true, (List.mem_append_left _ hma24)⟩;refine zM R4 ?_;obtain ⟨has27, hr27, h⟩ := andx_some h;obtain ⟨g_6, hgg_6, hrg_6⟩ := Rdl.reif (hs := ownL true v10 encI sure :: ownL true v9 encI may :: nestH true vn4 lists wsn4 :: .row b1 3 [iv (c_Book_Signed), v_c_Book_Gatherings, v_c_Items] :: (seg encI wsn4 lists ++ C)) hna24 M4 (ReifL.flat encI_tr);refine TO.call rfl rfl rfl rfl rfl (orcL rfl aD) (.cons (hrg_6 _) (.cons .lit .nil)) (sem_of (w_r1_Has g_6 n _ (by try rw [hgg_6]; exact hr27))) (zN ?_);obtain ⟨rfl, h⟩ | ⟨rfl, h⟩ := zZ h
         ·refine zC rfl (zT rfl (zM R4 ?_));obtain ⟨hk29, h⟩ := chk_some h;refine zV R3 (Val.add rfl rfl hk29) (zA R4 (zN ?_));cases h;exact ⟨rfl, (), (sb .refl)⟩
         refine zD rfl (zK ?_);cases h;exact ⟨rfl, (), (sb .refl)⟩
        ·rintro many_2 _ h;refine zT rfl (zM R4 ?_);obtain ⟨hk21, h⟩ := chk_some h;refine zV R3 (Val.add rfl rfl hk21) (zA R4 (zN ?_));cases h;exact ⟨rfl, (), (sb .refl)⟩
       refine zD rfl (zE ?_);cases h;exact ⟨ex_ne, ⟨rfl, (), (sb .refl)⟩⟩
      ·rintro many _ h
       show T _ _ _ _ _ _;apply T.joinA (r := j) (W := AV) (fun j w => ⟨[], [(0, vn4), (1, iv ((all44.length : Int))), (6, w), (7, v9), (8, iv (n)), (9, iv (many))], ownL true w encI j :: ownL true v9 encI may :: nestH true vn4 lists wsn4 :: .row b1 3 [iv (c_Book_Signed), v_c_Book_Gatherings, v_c_Items] :: (seg encI wsn4 lists ++ C)⟩) h
       ·intro j h;refine zU rfl (zM R4 (zM R4 (zV R3 (Val.len_nest (p := 2) rfl rfl rfl) ?_)));obtain ⟨c33, hc33⟩ := zY (many = (lists.length : Int));refine zV R3 (Val.eql hc33 rfl rfl) (zN ?_);obtain ⟨rfl, hc33, h⟩ | ⟨rfl, hc33, h⟩ := zI hc33 h
        ·refine zC rfl (zT rfl (zM R4 (zM R4 (TO.build1 (en := encI) (a := n) rfl rfl rfl ⟨rfl, rfl⟩ ⟨_, rfl, rfl⟩ (by decide) (by decide) rfl rfl (fun v36=>?_)))));obtain ⟨hk37, h⟩ := chk_some h;refine TO.eff rfl rfl rfl (Eff.append_own (b := 8) (en := encI) (l := sure) (l2 := [n]) (p := 1) (q := 0) ⟨rfl, rfl, rfl, ⟨_, rfl, rfl⟩, by decide, by decide⟩ rfl rfl rfl rfl rfl rfl (flat_ones _) (by decide) hk37) ?_;rintro v37 _ rfl;refine zG (_::_::_::_::_::(seg encI wsn4 lists ++ C)) rfl (zA R4 (zN ?_));cases h;exact ⟨rfl, v37, (sb (pk [1,1,1,1,98] rfl))⟩
        refine zD rfl (zK ?_);cases h;exact ⟨rfl, v10, (sb .refl)⟩
       ·rintro sure_2 v10_2 h;refine zU rfl (zM R4 ?_);obtain ⟨c39, hc39⟩ := zY (many > 0);refine zV R3 (Val.gtr hc39 rfl rfl) (zN ?_);obtain ⟨rfl, hc39, h⟩ | ⟨rfl, hc39, h⟩ := zI hc39 h
        ·refine zC rfl (zT rfl (zM R4 (zM R4 (TO.build1 (en := encI) (a := n) rfl rfl rfl ⟨rfl, rfl⟩ ⟨_, rfl, rfl⟩ (by decide) (by decide) rfl rfl (fun v42=>?_)))));obtain ⟨hk43, h⟩ := chk_some h;refine TO.eff rfl rfl rfl (Eff.append_own (b := 8) (en := encI) (l := may) (l2 := [n]) (p := 2) (q := 0) ⟨rfl, rfl, rfl, ⟨_, rfl, rfl⟩, by decide, by decide⟩ rfl rfl rfl rfl rfl rfl (flat_ones _) (by decide) hk43) ?_;rintro v43 _ rfl;refine zG (_::_::_::_::_::(seg encI wsn4 lists ++ C)) rfl (zA R4 (zN ?_));cases h;exact ⟨rfl, (v10_2, v43), (sb (pk [1,1,1,1,98] rfl))⟩
        refine zD rfl (zK ?_);cases h;exact ⟨rfl, (v10_2, v9), (sb .refl)⟩
     ·rintro ⟨sure_2, may_2⟩ ⟨v10_2, v9_2⟩ h;dsimp only at h;dsimp only;refine zT rfl (zM R4 ?_);obtain ⟨hk15, h⟩ := chk_some h;refine zV R3 (Val.add rfl rfl hk15) (zA R4 (zN ?_));cases h;exact ⟨rfl, (v10_2, v9_2), (sb .refl)⟩
    refine zD rfl (zE ?_);cases h;exact ⟨ex_ne, ⟨rfl, (v10, v9), (sb .refl)⟩⟩
   ·rintro ⟨sure, may⟩ ⟨v10, v9⟩ h;dsimp only at h;dsimp only;refine zU rfl (zM R4 (zM R4 (zA R4 (zA R4 (zN (zR ?_))))));cases h;exact ⟨rfl, _, rfl, ⟨(v10, v9), rfl, .refl⟩⟩
  ·rintro ⟨sure, may⟩ ⟨v13, v14⟩ h;dsimp only at h;refine zG (_::_::_::_::(seg encI wsn4 lists ++ C)) rfl (zM R4 (zX R5 (zX R5 (zA R4 (zA R4 (zN (zU rfl (zM R4 (zM R4 (zA R4 (zA R4 (zA R4 (zN (zR ?_))))))))))))));cases h;exact ⟨rfl, _, rfl, ⟨(v13, v14), rfl, (.pick (p := 0) rfl (.pick (p := 0) rfl (.drop (.drop (.dropA .refl)))))⟩⟩
theorem w_r4_Lost (c_Book_Signed : Int) (c_Book_Gatherings : GS encG) (c_Items : GS encIt) (r : (List Int) × (List Int) × Int) (h : P_r4_Lost c_Book_Signed c_Book_Gatherings.l c_Items.l = some r) : Comes (EL 5) 8 [.agg [iv (c_Book_Signed), c_Book_Gatherings.v, c_Items.v]] (.tuple [(GSo true encI r.1).v, (GSo true encI r.2.1).v, iv r.2.2]) :=
 TF.run (tf_r4_Lost (Nat.le_refl _) (RdT.gs c_Book_Gatherings) (RdT.gs c_Items) h) fun w => (.tuple (.cons (.ownL (en := encI) (p := 0) rfl (.lits encI_lits)) (.cons (.ownL (en := encI) (p := 1) rfl (.lits encI_lits)) (.cons .lit .nil))))
set_option maxRecDepth 10000 in
theorem tf_r4_Loose {k : Nat} (hk : 5 ≤ k) {C : List Thing} {c_Book_Signed : Int} {v_c_Book_Gatherings : AV} {c_Book_Gatherings : List Gat} {v_c_Items : AV} {c_Items : List Item} (ht_c_Book_Gatherings : RdT encG v_c_Book_Gatherings c_Book_Gatherings) (ht_c_Items : RdT encIt v_c_Items c_Items) {r : (List Int) × (List Int) × Int} (h : P_r4_Loose c_Book_Signed c_Book_Gatherings c_Items = some r) :
  TF (EL k) 11 [.agg [iv (c_Book_Signed), v_c_Book_Gatherings, v_c_Items]] C (RepF (fun (w : AV × AV) => .tuple [w.1, w.2, iv r.2.2]) (fun (w : AV × AV) => ownL true w.1 encI r.1 :: ownL true w.2 encI r.2.1 :: C)) := by
 unfold P_r4_Loose at h
 have h_c_Book_Gatherings : Rdl C encG v_c_Book_Gatherings c_Book_Gatherings := RdT.rdl ht_c_Book_Gatherings
 have h_c_Items : Rdl C encIt v_c_Items c_Items := RdT.rdl ht_c_Items;refine TF.enter (fn := Go.Proofs.Tryz.f11) rfl rfl rfl rfl rfl (zU rfl (zQ 3 [_,_,_] R7 (fun b1=>zA R4 (zA R4 (zA R4 (zN (zU rfl (zV R3 (vW 0 [_,_,_] R5 R4) ?_))))))));obtain ⟨⟨y15, y15_2, y15_3⟩, hr15, h⟩ := andx_some h;dsimp only at h;obtain ⟨g, hgg, hrg⟩ := Rdl.reif (hs := .row b1 3 [iv (c_Book_Signed), v_c_Book_Gatherings, v_c_Items] :: C) h_c_Book_Gatherings M1 (ReifL.flat encG_tr);obtain ⟨g_2, hgg_2, hrg_2⟩ := Rdl.reif (hs := .row b1 3 [iv (c_Book_Signed), v_c_Book_Gatherings, v_c_Items] :: C) h_c_Items M1 (ReifL.flat encIt_tr);refine TO.call rfl rfl rfl rfl rfl (orcL rfl aD) (.cons (.agg (.cons .lit (.cons (hrg _) (.cons (hrg_2 _) .nil)))) .nil) (sem_of (w_r4_Check c_Book_Signed g g_2 _ (by try rw [hgg]; try rw [hgg_2]; exact hr15))) (zM R4 (zX R5 (zX R5 (zX R5 (zA R4 (zA R4 (zA R4 (zN (zS (zU rfl (zM R4 ?_)))))))))));obtain ⟨c20, hc20⟩ := zY (¬ y15_3 = 0);refine zV R3 (Val.neq hc20 rfl rfl) (zN ?_);obtain ⟨rfl, hc20, h⟩ | ⟨rfl, hc20, h⟩ := zI hc20 h
 ·refine zC rfl (zU rfl (zM R4 (zA R4 (zA R4 (zA R4 (zN (T.nilown (u := encI.u) (T.nilown (u := encI.u) (zR ?_)))))))));cases h;exact ⟨rfl, _, rfl, ⟨(nilS, nilS), rfl, (pk [1,0,98] rfl)⟩⟩
 refine zD rfl (zK (zU rfl (zV R3 (vW 0 [_,_,_] R5 R4) ?_)));obtain ⟨⟨y23, y23_2⟩, hr23, h⟩ := andx_some h;dsimp only at h;obtain ⟨g_3, hgg_3, hrg_3⟩ := Rdl.reif (hs := .row b1 3 [iv (c_Book_Signed), v_c_Book_Gatherings, v_c_Items] :: C) h_c_Book_Gatherings M1 (ReifL.flat encG_tr);obtain ⟨g_4, hgg_4, hrg_4⟩ := Rdl.reif (hs := .row b1 3 [iv (c_Book_Signed), v_c_Book_Gatherings, v_c_Items] :: C) h_c_Items M1 (ReifL.flat encIt_tr);refine TO.call rfl rfl rfl rfl rfl (orcL rfl aD) (.cons (.agg (.cons .lit (.cons (hrg_3 _) (.cons (hrg_4 _) .nil)))) .nil) (sem_of (w_r4_All c_Book_Signed g_3 g_4 _ (by try rw [hgg_3]; try rw [hgg_4]; exact hr23))) (zA R4 (zN (zU rfl (zA R4 (zN ?_)))))
 show T _ _ _ _ _ _;apply T.joinA (r := r) (W := AV × (List AV)) (fun j w => ⟨[], [(1, .ptr b1 0 3), (9, w.1)], nestH true w.1 j w.2 :: .row b1 3 [iv (c_Book_Signed), v_c_Book_Gatherings, v_c_Items] :: (seg encI w.2 j ++ C)⟩) h
 ·intro j h;refine zU rfl (zA R4 (zN (zB (T.nilown (u := 1) (T.things (hs' := nestH true nilS ([] : List (List Int)) [] :: .row b1 3 [iv (c_Book_Signed), v_c_Book_Gatherings, v_c_Items] :: (seg encI [] ([] : List (List Int)) ++ C)) rfl ?_)))))
  show T _ _ _ _ _ _;apply T.iter (r := j) (W := AV × (List AV)) (fun j w => ⟨[], [(1, .ptr b1 0 3), (8, (GSo y23_2 (encSl encI) (List.map (GSo true encI) y23)).v), (9, w.1), (10, iv (j.1))], nestH true w.1 j.2 w.2 :: .row b1 3 [iv (c_Book_Signed), v_c_Book_Gatherings, v_c_Items] :: (seg encI w.2 j.2 ++ C)⟩) (w0 := (nilS, [])) h
  ·exact (sb .refl)
  rintro ⟨i, lists⟩ ⟨vn4, wsn4⟩ a h;unfold P_r4_Loose_L1 at h;dsimp only at h;dsimp only;refine zS (zU rfl (zM R4 (zM R4 (zV R3 (Val.len_gs rfl rfl) ?_))));obtain ⟨c27, hc27⟩ := zY (i < (((GSo y23_2 (encSl encI) (List.map (GSo true encI) y23)).l).length : Int));refine zV R3 (Val.lss hc27 rfl rfl) (zN ?_);obtain ⟨rfl, hc27, h⟩ | ⟨rfl, hc27, h⟩ := zI hc27 h
  ·refine zC rfl (zK (zS (zB (T.drawE (l1 := [0, 1, 2, 3, 4, 5, 6]) (l2 := [7, 8, 9, 10]) (by kernel_rfl) (by kernel_rfl) (yL R4 (Val.move rfl) (yL R4 (Val.faddr_ptr (fo := 0) rfl rfl rfl) (yR R4 (vW 1 [_,_] R5 R4) (yL R4 (Val.move rfl) (yL R4 (Val.move rfl) ?_)))))))));obtain ⟨a35, hia35, ea35, h⟩ := el_some h;refine TD1.fact (rdl_at (Rdl.gs (C := C) (GSo y23_2 (encSl encI) (List.map (GSo true encI) y23))) (memS (memS (memG mem0))) hia35 ea35) (fun hp=>?_);obtain ⟨pa35, hpa35, hva35⟩ := hp;refine yL R4 (hva35 ⟨rfl, rfl⟩ rfl rfl) (yR R4 (Val.load_e hpa35 (memS (memS (memG mem0))) ⟨_, rfl, rfl⟩ rfl rfl) (TD1.over (fun v => sameC_refl v) (all_cons (⟨_, rfl, (Val.load_e hpa35 (memS (memS (memG mem0))) ⟨_, rfl, rfl⟩ rfl rfl)⟩) (all_cons (⟨_, rfl, (vW 1 [_,_] R5 R4)⟩) all_nil)) ?_));obtain ⟨y37, hr37, h⟩ := andx_some h;refine TD2.heavy (fun v => sameC_refl v) rfl (by decide) rfl rfl (OpS.callV rfl rfl rfl rfl (orcN rfl) (RepF.conv (tf_r4_Free aD (Rdl.mono h_c_Book_Gatherings (memS (memS (memG mem0)))) (Rdl.mono (Rdl.gs (C := C) a35) (memS (memS (memG mem0)))) hr37))) ?_;rintro w37 _ ⟨w37, rfl, rfl⟩;refine ⟨(all_cons (.inl (by kernel_rfl)) (all_cons (.inl (by kernel_rfl)) all_nil)), all_nil, ?_⟩;refine yG (_::_::_::(seg encI wsn4 lists ++ C)) rfl (TD2.fact (own_cellS (p := 0) rfl) (fun hot5=>TD2.heavy (fun v => sameC_refl v) rfl (by decide) rfl rfl (OpS.eff (Eff.new (New.buildSlice (en := encAV) (l := [w37]) (vs := [(_, _)]) (ws := [(_, [_])]) ⟨rfl, rfl⟩ rfl rfl rfl rfl (CellsL.cons hot5.1 CellsL.nil) rfl rfl))) ?_));rintro _ _ ⟨v38_2, rfl, rfl⟩;refine ⟨(all_cons (.inl (by kernel_rfl)) (all_cons (.inl (by kernel_rfl)) all_nil)), all_nil, ?_⟩;refine TD2.less (Less.rowOwn (en := encAV) (l := [w37]) (p := 0) rfl) (yG (_::_::_::_::(seg encI wsn4 lists ++ C)) rfl (TD2.less (Pk.less (Pk.pick (p := 0) rfl (Pk.pick (p := 1) rfl (Pk.pick (p := 1) rfl (Pk.pick (p := 0) rfl Pk.refl))))) (yG (_::_::_::(seg encI [w37] [y37] ++ (seg encI wsn4 lists ++ C))) rfl ?_)));obtain ⟨hk39, h⟩ := chk_some h;refine TD2.fact (nest_len (p := 1) rfl) (fun hl39=>TD2.fact (nest_len (p := 0) rfl) (fun hm39=>TD2.heavy (fun v => sameC_refl v) rfl (by decide) rfl rfl (OpS.eff (Eff.append_nest (b := 24) (ls := lists) (ls2 := [y37]) (p := 1) (q := 0) ⟨rfl, rfl, rfl, ⟨_, rfl, rfl⟩, by decide, by decide⟩ rfl rfl rfl rfl rfl rfl (seg_ones (en := encI) hm39 (fun x hx => M3 x (List.mem_append_left _ hx))) (by decide) hk39)) ?_));rintro v39 _ rfl;refine ⟨(all_cons (.inl (by kernel_rfl)) (all_cons (.inl (by kernel_rfl)) all_nil)), all_nil, ?_⟩;refine yG ([nestH false (.slice v38_2 0 (List.flatMap encAV.f [w37]).length true (List.length [w37]) (List.length [w37])) [y37] [w37], nestH true v39 (lists ++ [y37]) (wsn4 ++ [w37]), .row b1 3 [iv (c_Book_Signed), v_c_Book_Gatherings, v_c_Items]] ++ (seg encI [w37] [y37] ++ (seg encI wsn4 lists ++ C))) rfl (TD2.less (Less.cat [nestH false (.slice v38_2 0 (List.flatMap encAV.f [w37]).length true (List.length [w37]) (List.length [w37])) [y37] [w37], nestH true v39 (lists ++ [y37]) (wsn4 ++ [w37]), .row b1 3 [iv (c_Book_Signed), v_c_Book_Gatherings, v_c_Items]] hl39) (yG (_::_::_::(seg encI (wsn4 ++ [w37]) (lists ++ [y37]) ++ C)) rfl (yM R4 (Val.assign rfl) (TD2.nil (zT rfl (zM R4 ?_))))))
   obtain ⟨hk29, h⟩ := chk_some h;refine zV R3 (Val.add rfl rfl hk29) (zA R4 (zN ?_));cases h;exact ⟨rfl, (v39, wsn4 ++ [w37]), (sb (pk [1,1,98] rfl))⟩
  refine zD rfl (zE ?_);cases h;exact ⟨ex_ne, ⟨rfl, (vn4, wsn4), (sb .refl)⟩⟩
 ·rintro lists ⟨vn4, wsn4⟩ h;dsimp only;refine zU rfl (zM R4 (zF 0 R6 (zV R3 (vW 1 [_,_] R5 R4) ?_)));obtain ⟨all44, hr44, h⟩ := andx_some h;obtain ⟨g_5, hgg_5, hrg_5⟩ := Rdl.reif (hs := nestH true vn4 lists wsn4 :: .row b1 3 [iv (c_Book_Signed), v_c_Book_Gatherings, v_c_Items] :: (seg encI wsn4 lists ++ C)) h_c_Book_Gatherings (memS (memS (memG mem0))) (ReifL.flat encG_tr);refine TO.call rfl rfl rfl rfl rfl (orcL rfl aD) (.cons (.agg (.cons .lit (.cons (hrg_5 _) .nil))) .nil) (sem_of (w_r1_All c_Book_Signed g_5 _ (by try rw [hgg_5]; exact hr44))) (zV R3 (Val.len_gs rfl rfl) ?_);refine TO.callJ (W := AV × AV) (fun (j : (List Int) × (List Int)) (w : AV × AV) => .tuple [w.1, w.2]) (fun (j : (List Int) × (List Int)) (w : AV × AV) => ownL true w.1 encI j.1 :: ownL true w.2 encI j.2 :: nestH true vn4 lists wsn4 :: .row b1 3 [iv (c_Book_Signed), v_c_Book_Gatherings, v_c_Items] :: (seg encI wsn4 lists ++ C)) h rfl rfl rfl rfl rfl rfl (orcN rfl) ?_ ?_
  ·intro j h;refine TF.enter (fn := Go.Proofs.Tryz.f37) rfl rfl rfl rfl rfl (zU rfl (zA R4 (zA R4 (zN (zU rfl (zA R4 (zA R4 (zN ?_))))))))
   show T _ _ _ _ _ _;apply T.joinA (r := j) (W := AV × AV) (fun j w => ⟨[], [(6, w.1), (7, w.2)], ownL true w.1 encI j.1 :: ownL true w.2 encI j.2 :: nestH true vn4 lists wsn4 :: .row b1 3 [iv (c_Book_Signed), v_c_Book_Gatherings, v_c_Items] :: (seg encI wsn4 lists ++ C)⟩) h
   ·intro j h;refine zU rfl (zA R4 (zN (zB (T.nilown (u := encI.u) (T.nilown (u := encI.u) ?_)))))
    show T _ _ _ _ _ _;apply T.iter (r := j) (W := AV × AV) (fun j w => ⟨[], [(0, vn4), (1, iv ((all44.length : Int))), (6, w.1), (7, w.2), (8, iv (j.1))], ownL true w.1 encI j.2.1 :: ownL true w.2 encI j.2.2 :: nestH true vn4 lists wsn4 :: .row b1 3 [iv (c_Book_Signed), v_c_Book_Gatherings, v_c_Items] :: (seg encI wsn4 lists ++ C)⟩) (w0 := (nilS, nilS)) h
    ·exact (sb .refl)
    rintro ⟨n, sure, may⟩ ⟨v10, v9⟩ a h;unfold P_r4_Loose_L2 at h;dsimp only at h;dsimp only;refine zS (zU rfl (zM R4 (zM R4 ?_)));obtain ⟨c13, hc13⟩ := zY (n < (all44.length : Int));refine zV R3 (Val.lss hc13 rfl rfl) (zN ?_);obtain ⟨rfl, hc13, h⟩ | ⟨rfl, hc13, h⟩ := zI hc13 h
    ·refine zC rfl (zK ?_)
     show T _ _ _ _ _ _;apply T.joinA (r := a) (W := AV × AV) (fun j w => ⟨[], [(0, vn4), (1, iv ((all44.length : Int))), (6, w.1), (7, w.2), (8, iv (n))], ownL true w.1 encI j.1 :: ownL true w.2 encI j.2 :: nestH true vn4 lists wsn4 :: .row b1 3 [iv (c_Book_Signed), v_c_Book_Gatherings, v_c_Items] :: (seg encI wsn4 lists ++ C)⟩) h
     ·intro j h;refine zB (zU rfl (zA R4 (zN ?_)))
      show T _ _ _ _ _ _;apply T.joinA (r := j) (W := Unit) (fun j w => ⟨[], [(0, vn4), (1, iv ((all44.length : Int))), (6, v10), (7, v9), (8, iv (n)), (9, iv (j))], ownL true v10 encI sure :: ownL true v9 encI may :: nestH true vn4 lists wsn4 :: .row b1 3 [iv (c_Book_Signed), v_c_Book_Gatherings, v_c_Items] :: (seg encI wsn4 lists ++ C)⟩) h
      ·intro j h;refine zU rfl (zA R4 (zN (zB ?_)))
       show T _ _ _ _ _ _;apply T.iter (r := j) (W := Unit) (fun j w => ⟨[], [(0, vn4), (1, iv ((all44.length : Int))), (6, v10), (7, v9), (8, iv (n)), (9, iv (j.1)), (10, iv (j.2))], ownL true v10 encI sure :: ownL true v9 encI may :: nestH true vn4 lists wsn4 :: .row b1 3 [iv (c_Book_Signed), v_c_Book_Gatherings, v_c_Items] :: (seg encI wsn4 lists ++ C)⟩) (w0 := ()) h
       ·exact (sb .refl)
       rintro ⟨many, i⟩ _ a h;unfold P_r4_Loose_L3 at h;dsimp only at h;dsimp only;refine zS (zU rfl (zM R4 (zM R4 (zV R3 (Val.len_nest (p := 2) rfl rfl rfl) ?_))));obtain ⟨c19, hc19⟩ := zY (i < (lists.length : Int));refine zV R3 (Val.lss hc19 rfl rfl) (zN ?_);obtain ⟨rfl, hc19, h⟩ | ⟨rfl, hc19, h⟩ := zI hc19 h
       ·refine zC rfl (zK ?_)
        show T _ _ _ _ _ _;apply T.joinA (r := a) (W := Unit) (fun j w => ⟨[], [(0, vn4), (1, iv ((all44.length : Int))), (6, v10), (7, v9), (8, iv (n)), (9, iv (j)), (10, iv (i))], ownL true v10 encI sure :: ownL true v9 encI may :: nestH true vn4 lists wsn4 :: .row b1 3 [iv (c_Book_Signed), v_c_Book_Gatherings, v_c_Items] :: (seg encI wsn4 lists ++ C)⟩) h
        ·intro j h;refine zB (zU rfl (zM R4 (zM R4 ?_)));obtain ⟨a24, hia24, ea24, h⟩ := el_some h;refine TO.fact (nest_at (en := encI) (p := 2) rfl hia24 ea24) (fun hp=>?_);obtain ⟨ida24, wa24, ata24, ewa24, hma24⟩ := hp;refine zV R3 (Val.iaddr_nest ata24 ⟨rfl, rfl⟩ rfl rfl hia24) (zV R3 (Val.load_nest (p := 2) rfl ata24 ⟨_, rfl, rfl⟩ rfl ewa24) ?_)
         have hna24 : Rdl (seg encI wsn4 lists ++ C) encI wa24 a24 := .inr ⟨true, (List.mem_append_left _ hma24)⟩;refine zM R4 ?_;obtain ⟨has27, hr27, h⟩ := andx_some h;obtain ⟨g_6, hgg_6, hrg_6⟩ := Rdl.reif (hs := ownL true v10 encI sure :: ownL true v9 encI may :: nestH true vn4 lists wsn4 :: .row b1 3 [iv (c_Book_Signed), v_c_Book_Gatherings, v_c_Items] :: (seg encI wsn4 lists ++ C)) hna24 M4 (ReifL.flat encI_tr);refine TO.call rfl rfl rfl rfl rfl (orcL rfl aD) (.cons (hrg_6 _) (.cons .lit .nil)) (sem_of (w_r1_Has g_6 n _ (by try rw [hgg_6]; exact hr27))) (zN ?_);obtain ⟨rfl, h⟩ | ⟨rfl, h⟩ := zZ h
         ·refine zC rfl (zT rfl (zM R4 ?_));obtain ⟨hk29, h⟩ := chk_some h;refine zV R3 (Val.add rfl rfl hk29) (zA R4 (zN ?_));cases h;exact ⟨rfl, (), (sb .refl)⟩
         refine zD rfl (zK ?_);cases h;exact ⟨rfl, (), (sb .refl)⟩
        ·rintro many_2 _ h;refine zT rfl (zM R4 ?_);obtain ⟨hk21, h⟩ := chk_some h;refine zV R3 (Val.add rfl rfl hk21) (zA R4 (zN ?_));cases h;exact ⟨rfl, (), (sb .refl)⟩
       refine zD rfl (zE ?_);cases h;exact ⟨ex_ne, ⟨rfl, (), (sb .refl)⟩⟩
      ·rintro many _ h
       show T _ _ _ _ _ _;apply T.joinA (r := j) (W := AV) (fun j w => ⟨[], [(0, vn4), (1, iv ((all44.length : Int))), (6, w), (7, v9), (8, iv (n)), (9, iv (many))], ownL true w encI j :: ownL true v9 encI may :: nestH true vn4 lists wsn4 :: .row b1 3 [iv (c_Book_Signed), v_c_Book_Gatherings, v_c_Items] :: (seg encI wsn4 lists ++ C)⟩) h
       ·intro j h;refine zU rfl (zM R4 (zM R4 (zV R3 (Val.len_nest (p := 2) rfl rfl rfl) ?_)));obtain ⟨c33, hc33⟩ := zY (many = (lists.length : Int));refine zV R3 (Val.eql hc33 rfl rfl) (zN ?_);obtain ⟨rfl, hc33, h⟩ | ⟨rfl, hc33, h⟩ := zI hc33 h
        ·refine zC rfl (zT rfl (zM R4 (zM R4 (TO.build1 (en := encI) (a := n) rfl rfl rfl ⟨rfl, rfl⟩ ⟨_, rfl, rfl⟩ (by decide) (by decide) rfl rfl (fun v36=>?_)))));obtain ⟨hk37, h⟩ := chk_some h;refine TO.eff rfl rfl rfl (Eff.append_own (b := 8) (en := encI) (l := sure) (l2 := [n]) (p := 1) (q := 0) ⟨rfl, rfl, rfl, ⟨_, rfl, rfl⟩, by decide, by decide⟩ rfl rfl rfl rfl rfl rfl (flat_ones _) (by decide) hk37) ?_;rintro v37 _ rfl;refine zG (_::_::_::_::_::(seg encI wsn4 lists ++ C)) rfl (zA R4 (zN ?_));cases h;exact ⟨rfl, v37, (sb (pk [1,1,1,1,98] rfl))⟩
        refine zD rfl (zK ?_);cases h;exact ⟨rfl, v10, (sb .refl)⟩
       ·rintro sure_2 v10_2 h;refine zU rfl (zM R4 ?_);obtain ⟨c39, hc39⟩ := zY (many > 0);refine zV R3 (Val.gtr hc39 rfl rfl) (zN ?_);obtain ⟨rfl, hc39, h⟩ | ⟨rfl, hc39, h⟩ := zI hc39 h
        ·refine zC rfl (zT rfl (zM R4 (zM R4 (TO.build1 (en := encI) (a := n) rfl rfl rfl ⟨rfl, rfl⟩ ⟨_, rfl, rfl⟩ (by decide) (by decide) rfl rfl (fun v42=>?_)))));obtain ⟨hk43, h⟩ := chk_some h;refine TO.eff rfl rfl rfl (Eff.append_own (b := 8) (en := encI) (l := may) (l2 := [n]) (p := 2) (q := 0) ⟨rfl, rfl, rfl, ⟨_, rfl, rfl⟩, by decide, by decide⟩ rfl rfl rfl rfl rfl rfl (flat_ones _) (by decide) hk43) ?_;rintro v43 _ rfl;refine zG (_::_::_::_::_::(seg encI wsn4 lists ++ C)) rfl (zA R4 (zN ?_));cases h;exact ⟨rfl, (v10_2, v43), (sb (pk [1,1,1,1,98] rfl))⟩
        refine zD rfl (zK ?_);cases h;exact ⟨rfl, (v10_2, v9), (sb .refl)⟩
     ·rintro ⟨sure_2, may_2⟩ ⟨v10_2, v9_2⟩ h;dsimp only at h;dsimp only;refine zT rfl (zM R4 ?_);obtain ⟨hk15, h⟩ := chk_some h;refine zV R3 (Val.add rfl rfl hk15) (zA R4 (zN ?_));cases h;exact ⟨rfl, (v10_2, v9_2), (sb .refl)⟩
    refine zD rfl (zE ?_);cases h;exact ⟨ex_ne, ⟨rfl, (v10, v9), (sb .refl)⟩⟩
   ·rintro ⟨sure, may⟩ ⟨v10, v9⟩ h;dsimp only at h;dsimp only;refine zU rfl (zM R4 (zM R4 (zA R4 (zA R4 (zN (zR ?_))))));cases h;exact ⟨rfl, _, rfl, ⟨(v10, v9), rfl, .refl⟩⟩
  ·rintro ⟨sure, may⟩ ⟨v13, v14⟩ h;dsimp only at h;refine zG (_::_::_::_::(seg encI wsn4 lists ++ C)) rfl (zM R4 (zX R5 (zX R5 (zA R4 (zA R4 (zN (zU rfl (zM R4 (zM R4 (zA R4 (zA R4 (zA R4 (zN (zR ?_))))))))))))));cases h;exact ⟨rfl, _, rfl, ⟨(v13, v14), rfl, (.pick (p := 0) rfl (.pick (p := 0) rfl (.drop (.drop (.dropA .refl)))))⟩⟩
theorem w_r4_Loose (c_Book_Signed : Int) (c_Book_Gatherings : GS encG) (c_Items : GS encIt) (r : (List Int) × (List Int) × Int) (h : P_r4_Loose c_Book_Signed c_Book_Gatherings.l c_Items.l = some r) : Comes (EL 5) 11 [.agg [iv (c_Book_Signed), c_Book_Gatherings.v, c_Items.v]] (.tuple [(GSo true encI r.1).v, (GSo true encI r.2.1).v, iv r.2.2]) :=
 TF.run (tf_r4_Loose (Nat.le_refl _) (RdT.gs c_Book_Gatherings) (RdT.gs c_Items) h) fun w => (.tuple (.cons (.ownL (en := encI) (p := 0) rfl (.lits encI_lits)) (.cons (.ownL (en := encI) (p := 1) rfl (.lits encI_lits)) (.cons .lit .nil))))
set_option maxRecDepth 10000 in
theorem tf_c_Ask {k : Nat} (hk : 5 ≤ k) {C : List Thing} {c_Book_Signed : Int} {v_c_Book_Gatherings : AV} {c_Book_Gatherings : List Gat} {v_c_Items : AV} {c_Items : List Item} (ht_c_Book_Gatherings : RdT encG v_c_Book_Gatherings c_Book_Gatherings) (ht_c_Items : RdT encIt v_c_Items c_Items) {r : Int × Int} (h : P_c_Ask c_Book_Signed c_Book_Gatherings c_Items = some r) :
  TF (EL k) 12 [.agg [iv (c_Book_Signed), v_c_Book_Gatherings, v_c_Items]] C (RepF (fun (w : Unit) => .tuple [iv r.1, iv r.2]) (fun (w : Unit) => C)) := by
 unfold P_c_Ask at h
 have h_c_Book_Gatherings : Rdl C encG v_c_Book_Gatherings c_Book_Gatherings := RdT.rdl ht_c_Book_Gatherings
 have h_c_Items : Rdl C encIt v_c_Items c_Items := RdT.rdl ht_c_Items;refine TF.enter (fn := Go.Proofs.Tryz.f12) rfl rfl rfl rfl rfl (zU rfl (zQ 3 [_,_,_] R7 (fun b1=>zA R4 (zA R4 (zN (zU rfl (zV R3 (vW 0 [_,_,_] R5 R4) ?_)))))));obtain ⟨y16, hr16, h⟩ := andx_some h;cases y16 with
 | inl y16 =>
  obtain ⟨y16_2, y16_3, y16_4⟩ := y16;dsimp only at h;obtain ⟨hkn16, h⟩ := chk_some h;refine TO.callT (first := []) (cap := []) (vs := [.agg [iv (c_Book_Signed), v_c_Book_Gatherings, v_c_Items]]) rfl rfl rfl rfl rfl rfl (orcN rfl) (tf_c_open aD (Rdl.mono h_c_Book_Gatherings M1) (Rdl.mono h_c_Items M1) hr16) ?_;rintro _;refine zG (_::C) rfl (zM R4 (zX R5 (zX R5 (zX R5 (zX R5 (zA R4 (zA R4 (zA R4 (zA R4 (zN (zS (zU rfl (zM R4 ?_)))))))))))));obtain ⟨c22, hc22⟩ := zY (¬ y16_4 = 0);refine zV R3 (Val.neq hc22 rfl rfl) (zN ?_);obtain rfl : c22 = true := hc22.trans (decide_eq_true hkn16);refine zC rfl (zU rfl (zM R4 (zA R4 (zA R4 (zN (zR ?_))))));cases h;exact ⟨rfl, _, rfl, ⟨(), rfl, (pk [98] rfl)⟩⟩
 | inr y16 =>
  obtain ⟨y16_2, y16_3, y16_4, y16_5, y16_6, y16_7⟩ := y16;dsimp only at h;obtain ⟨hkn16, h⟩ := chk_some h;refine TO.callT (first := []) (cap := []) (vs := [.agg [iv (c_Book_Signed), v_c_Book_Gatherings, v_c_Items]]) rfl rfl rfl rfl rfl rfl (orcN rfl) (tf_c_open aD (Rdl.mono h_c_Book_Gatherings M1) (Rdl.mono h_c_Items M1) hr16) ?_;rintro ⟨w16, w16_2⟩;refine zG (_::_::_::C) rfl (zM R4 (zX R5 (zX R5 (zX R5 (zX R5 (zA R4 (zA R4 (zA R4 (zA R4 (zN (zS (zU rfl (zM R4 ?_)))))))))))));obtain ⟨c22, hc22⟩ := zY (¬ y16_7 = 0);refine zV R3 (Val.neq hc22 rfl rfl) (zN ?_);obtain rfl : c22 = false := hc22.trans (decide_eq_false (fun x => x hkn16));refine zD rfl (zK (zU rfl (zA R4 (zN ?_))))
  show T _ _ _ _ _ _;apply T.joinA (r := r) (W := Unit) (fun j w => ⟨[], [(2, iv (j.1)), (7, iv (j.2))], .row w16 5 [iv (y16_2), v_c_Book_Gatherings, v_c_Items, y16_3.v, w16_2] :: ownL true w16_2 encI y16_4 :: .row b1 3 [iv (c_Book_Signed), v_c_Book_Gatherings, v_c_Items] :: C⟩) h
  ·intro j h;refine zU rfl (zF 2 R6 (zL 2 R3 R6 (zV R3 (Val.len_l h_c_Items M3 rfl rfl) (zM R4 (zN (zB ?_))))))
   show T _ _ _ _ _ _;apply T.iter (r := j) (W := Unit) (fun j w => ⟨[], [(1, .ptr b1 0 3), (2, iv (j.1)), (4, .ptr w16 0 5), (7, iv (j.2.1)), (25, v_c_Items), (26, iv ((c_Items.length : Int))), (27, iv (j.2.2))], .row w16 5 [iv (y16_2), v_c_Book_Gatherings, v_c_Items, y16_3.v, w16_2] :: ownL true w16_2 encI y16_4 :: .row b1 3 [iv (c_Book_Signed), v_c_Book_Gatherings, v_c_Items] :: C⟩) (w0 := ()) h
   ·exact (sb .refl)
   rintro ⟨item, best, x27⟩ _ a h;unfold P_c_Ask_L1 at h;dsimp only at h;dsimp only;refine zU rfl ?_;obtain ⟨c28, hc28⟩ := zY (x27 < (c_Items.length : Int));refine zV R3 (Val.lss hc28 rfl rfl) (zN (zS ?_));obtain ⟨rfl, hc28, h⟩ | ⟨rfl, hc28, h⟩ := zI hc28 h
   ·refine zC rfl (zK ?_)
    show T _ _ _ _ _ _;apply T.joinA (r := a) (W := Unit) (fun j w => ⟨[], [(1, .ptr b1 0 3), (2, iv (j.1)), (4, .ptr w16 0 5), (7, iv (j.2)), (25, v_c_Items), (26, iv ((c_Items.length : Int))), (27, iv (x27))], .row w16 5 [iv (y16_2), v_c_Book_Gatherings, v_c_Items, y16_3.v, w16_2] :: ownL true w16_2 encI y16_4 :: .row b1 3 [iv (c_Book_Signed), v_c_Book_Gatherings, v_c_Items] :: C⟩) h
    ·intro j h;refine zB (zU rfl (zM R4 ?_));obtain ⟨a30, hia30, ea30, h⟩ := el_some h;refine TO.fact (rdl_at h_c_Items M3 hia30 ea30) (fun hp=>?_);obtain ⟨pa30, hpa30, hva30⟩ := hp;refine zV R3 (hva30 ⟨rfl, rfl⟩ rfl rfl) (zV R3 (Val.load_es (c := [_]) hpa30 M3 ⟨⟨_, rfl, rfl⟩, rfl, by decide⟩ rfl rfl rfl) (zJ 1 [_] R7 (fun b9=>zA R4 (TO.eff0 rfl rfl (Eff.store_row (p := 0) (cv := [_]) (cells' := [_]) rfl rfl rfl rfl rfl rfl rfl rfl aG (by decide) rfl) ?_))));rintro _ rfl;refine zG (_::_::_::_::C) rfl (zN (zS (zU rfl (zF 0 R6 (zL 0 R3 R6 (zV R3 (Val.len_gs rfl rfl) ?_))))));obtain ⟨c35, hc35⟩ := zY ((a30.could.l.length : Int) < 2);refine zV R3 (Val.lss hc35 rfl rfl) (zN ?_);obtain ⟨rfl, hc35, h⟩ | ⟨rfl, hc35, h⟩ := zI hc35 h
     ·refine zC rfl (zE ?_);cases h;exact ⟨rfl, (), (sb (pk [1,1,1,98] rfl))⟩
     refine zD rfl (zK (zU rfl (zA R4 (zN ?_))))
     show T _ _ _ _ _ _;apply T.joinA (r := j) (W := Unit) (fun j w => ⟨[], [(1, .ptr b1 0 3), (2, iv (item)), (4, .ptr w16 0 5), (7, iv (best)), (8, iv (x27)), (10, iv (j)), (25, v_c_Items), (26, iv ((c_Items.length : Int))), (27, iv (x27))], .row b9 1 [a30.could.v] :: .row w16 5 [iv (y16_2), v_c_Book_Gatherings, v_c_Items, y16_3.v, w16_2] :: ownL true w16_2 encI y16_4 :: .row b1 3 [iv (c_Book_Signed), v_c_Book_Gatherings, v_c_Items] :: C⟩) h
     ·intro j h;refine zU rfl (zF 0 R6 (zL 0 R3 R6 (zV R3 (Val.len_gs rfl rfl) (zM R4 (zN (zB ?_))))))
      show T _ _ _ _ _ _;apply T.iter (r := j) (W := Unit) (fun j w => ⟨[], [(1, .ptr b1 0 3), (2, iv (item)), (4, .ptr w16 0 5), (7, iv (best)), (8, iv (x27)), (9, .ptr b9 0 1), (10, iv (j.1)), (25, v_c_Items), (26, iv ((c_Items.length : Int))), (27, iv (x27)), (38, iv ((a30.could.l.length : Int))), (39, iv (j.2))], .row b9 1 [a30.could.v] :: .row w16 5 [iv (y16_2), v_c_Book_Gatherings, v_c_Items, y16_3.v, w16_2] :: ownL true w16_2 encI y16_4 :: .row b1 3 [iv (c_Book_Signed), v_c_Book_Gatherings, v_c_Items] :: C⟩) (w0 := ()) h
      ·exact (sb .refl)
      rintro ⟨worst, x39⟩ _ a h;unfold P_c_Ask_L2 at h;dsimp only at h;dsimp only;refine zU rfl ?_;obtain ⟨c40, hc40⟩ := zY (x39 < (a30.could.l.length : Int));refine zV R3 (Val.lss hc40 rfl rfl) (zN (zS ?_));obtain ⟨rfl, hc40, h⟩ | ⟨rfl, hc40, h⟩ := zI hc40 h
      ·refine zC rfl (zK (zS (zB (zU rfl (zM R4 (zA R4 (zN (zU rfl (zM R4 (zV R3 (Val.nil_ptr rfl) (zV R3 (vW 1 [_,_,_,_,_] R5 R4) (zJ 5 [_,_,_,_,_] R7 (fun b12=>TO.fact (rdl_cellS h_c_Book_Gatherings M5) (fun hoc_Book_Gatherings=>TO.fact (rdl_cellS h_c_Items M5) (fun hoc_Items=>TO.fact (own_cellS (p := 3) rfl) (fun hot3=>TO.eff0 rfl rfl (Eff.store_row (p := 0) (cv := [_, _, _, _, _]) (cells' := [_, _, _, _, _]) rfl rfl rfl rfl rfl rfl rfl rfl (by first | rfl | (simp [GS.one, hoc_Book_Gatherings.2, hoc_Items.2, hot3.2]; done) | (simp [GS.one, hoc_Book_Gatherings.2, hoc_Items.2, hot3.2]; (repeat' apply And.intro) <;> rfl)) (by decide) rfl) ?_))))))))))))))));rintro _ rfl;refine zG (_::_::_::_::_::C) rfl (zN (zU rfl (zF 2 R6 (zL 4 R3 R6 ?_))));refine TO.callJ (W := AV) (fun (j : (List Item)) (w : AV) => w) (fun (j : (List Item)) (w : AV) => ownL false w encIt j :: .row b12 5 [iv (y16_2), v_c_Book_Gatherings, v_c_Items, y16_3.v, w16_2] :: .row b9 1 [a30.could.v] :: .row w16 5 [iv (y16_2), v_c_Book_Gatherings, v_c_Items, y16_3.v, w16_2] :: ownL true w16_2 encI y16_4 :: .row b1 3 [iv (c_Book_Signed), v_c_Book_Gatherings, v_c_Items] :: C) h rfl rfl rfl rfl rfl rfl (orcN rfl) ?_ ?_
       ·intro j h;refine TF.enter (fn := Go.Proofs.Tryz.f41) rfl rfl rfl rfl rfl (zU rfl (zA R4 (zN (zS (zU rfl (zM R4 ?_))))));obtain ⟨hk4, h⟩ := chk_some h;refine zV R3 (Val.nil_eqT ht_c_Items hk4 rfl rfl rfl) (zN (zD rfl (zK (zU rfl (TO.build0 (en := encIt) rfl rfl rfl ⟨rfl, rfl⟩ (fun v5=>zM R4 ?_))))));obtain ⟨hk7, h⟩ := chk_some h;refine TO.eff rfl rfl rfl (Eff.append_l (b := 24) (en := encIt) (l := ([] : List Item)) (p := 0) ⟨rfl, rfl, rfl, ⟨_, rfl, rfl⟩, by decide, by decide⟩ rfl rfl rfl h_c_Items M6 rfl rfl (en_ones encIt_ones _) (by decide) hk7) ?_;rintro v7 _ rfl;refine zG (_::_::_::_::_::_::C) rfl (zA R4 (zN (zR ?_)));cases h;exact ⟨rfl, _, rfl, ⟨v7, rfl, .refl⟩⟩
       ·rintro l5 v7 h;refine zG (_::_::_::_::_::_::C) rfl (zF 0 R6 (zF 2 R6 (TO.fact (own_cellS (p := 0) rfl) (fun hot7=>TO.eff0 rfl rfl (Eff.store_row (p := 1) (cv := [_]) (cells' := [_, _, _, _, _]) rfl rfl rfl rfl rfl hot7.1 rfl rfl (by first | rfl | (simp [GS.one, hot7.2]; done)) (by decide) rfl) ?_))));rintro _ rfl;refine zG (_::_::_::_::_::_::C) rfl (zN (zS (T.drawE (l1 := [0, 1, 2, 3, 4, 5, 6, 7, 8, 9, 10, 11]) (l2 := [12]) (by kernel_rfl) (by kernel_rfl) (yL R4 (Val.faddr_ptr (fo := 0) rfl rfl rfl) (yL R4 (Val.faddr_ptr (fo := 2) rfl rfl rfl) (yR R4 (vR (p := 1) R6) (yL R4 (Val.move rfl) (yL R4 (Val.faddr_ptr (fo := 0) rfl rfl rfl) (yR R4 (vR (p := 2) R6) (yL R4 (Val.move rfl) (yL R4 (Val.move rfl) ?_)))))))))));obtain ⟨hk58, h⟩ := chk_some h;refine yL R4 (Val.add rfl rfl hk58) ?_;obtain ⟨hk59, h⟩ := chk_some h;obtain ⟨w59, htw59, hgw59, hvw59⟩ := slice_T (RdT.gs a30.could) hk59;obtain ⟨hk59_2, h⟩ := chk_some h;obtain rfl := hgw59 hk59_2;refine yR R4 (hvw59 ⟨rfl, rfl⟩ rfl (.some rfl) (.some rfl)) ?_;obtain ⟨a60, hia60, ea60, h⟩ := el_some h;refine TD1.fact (own_at (en := encIt) (p := 0) rfl hia60) (fun hp=>?_);obtain ⟨ida60, ata60⟩ := hp;refine yL R4 (Val.iaddr_at (en := encIt) ata60 ⟨rfl, rfl⟩ rfl rfl hia60) (yL R4 (Val.faddr_ptr_ rfl rfl) (TD1.over (fun v => sameC_refl v) (all_cons (⟨_, rfl, (hvw59 ⟨rfl, rfl⟩ rfl (.some rfl) (.some rfl))⟩) (all_cons (⟨_, rfl, (vR (p := 2) R6)⟩) (all_cons (⟨_, rfl, (vR (p := 1) R6)⟩) all_nil))) (TD2.heavy (fun v => sameC_refl v) rfl (by decide) rfl rfl (OpS.eff (Eff.store_ownE (en := encIt) (p := 0) (a := a60) (a' := (⟨(GSo true encI (List.take ((x39 + 1) - x39).toNat (List.drop (x39 : Int).toNat a30.could.l)))⟩ : Item)) (j := 0) (cv := [_]) rfl ata60 ea60 rfl rfl (by decide) rfl rfl (GS.cells (GSo true encI (List.take ((x39 + 1) - x39).toNat (List.drop (x39 : Int).toNat a30.could.l)))).1 rfl aG rfl)) ?_)));rintro _ _ rfl;refine ⟨(all_cons (.inl (by kernel_rfl)) (all_cons (.inl (by kernel_rfl)) (all_cons (.inl (by kernel_rfl)) all_nil))), all_nil, ?_⟩;refine yG (_::_::_::_::_::_::C) rfl (TD2.nil (zU rfl ?_));obtain ⟨⟨y62, y62_2⟩, hr62, h⟩ := andx_some h;dsimp only at h;refine TO.callT (first := []) (cap := []) (vs := [.ptr b12 0 5]) rfl rfl rfl rfl rfl rfl (orcN rfl) (tf_c_wide aD (Rdl.mono h_c_Book_Gatherings M6) (Rdl.mono (Rdl.own (C := ownL false v7 encIt (List.set l5 x27.toNat (⟨(GSo true encI (List.take ((x39 + 1) - x39).toNat (List.drop (x39 : Int).toNat a30.could.l)))⟩ : Item)) :: .row b12 5 [iv (y16_2), v_c_Book_Gatherings, v7, y16_3.v, w16_2] :: .row b9 1 [a30.could.v] :: .row w16 5 [iv (y16_2), v_c_Book_Gatherings, v_c_Items, y16_3.v, w16_2] :: ownL true w16_2 encI y16_4 :: .row b1 3 [iv (c_Book_Signed), v_c_Book_Gatherings, v_c_Items] :: C) (p := 0) rfl) mem0) (Rdl.mono (Rdl.gs (C := C) y16_3) M6) (Rdl.mono (Rdl.own (C := ownL false v7 encIt (List.set l5 x27.toNat (⟨(GSo true encI (List.take ((x39 + 1) - x39).toNat (List.drop (x39 : Int).toNat a30.could.l)))⟩ : Item)) :: .row b12 5 [iv (y16_2), v_c_Book_Gatherings, v7, y16_3.v, w16_2] :: .row b9 1 [a30.could.v] :: .row w16 5 [iv (y16_2), v_c_Book_Gatherings, v_c_Items, y16_3.v, w16_2] :: ownL true w16_2 encI y16_4 :: .row b1 3 [iv (c_Book_Signed), v_c_Book_Gatherings, v_c_Items] :: C) (p := 4) rfl) mem0) (List.mem_of_getElem? (i := 1) rfl) hr62) ?_
        rintro _;refine zG (_::_::_::_::_::_::C) rfl (zJ 2 [_,_] R7 (fun b13=>TO.eff0 rfl rfl (Eff.store_row (p := 0) (cv := [_, _]) (cells' := [_, _]) rfl rfl rfl rfl rfl rfl rfl rfl aG (by decide) rfl) ?_));rintro _ rfl;refine zG (_::_::_::_::_::_::_::C) rfl (zN (zT rfl (zM R4 (zF 1 R6 (zL 0 R3 R6 (zF 0 R6 (zL 0 R3 R6 ?_)))))));obtain ⟨hk68, h⟩ := chk_some h;refine zV R3 (Val.sub rfl rfl hk68) (zV R3 (Val.bmax rfl rfl) (zA R4 (zN (zT rfl ?_))));obtain ⟨hk70, h⟩ := chk_some h;refine zV R3 (Val.add rfl rfl hk70) (zM R4 (zN ?_));cases h;exact ⟨rfl, (), (sb (pk [3,3,3,3,98,98,98] rfl))⟩
      refine zD rfl (zE ?_);cases h;exact ⟨ex_ne, ⟨rfl, (), (sb .refl)⟩⟩
     ·rintro worst _ h
      show T _ _ _ _ _ _;apply T.joinA (r := j) (W := Unit) (fun j w => ⟨[], [(1, .ptr b1 0 3), (2, iv (item)), (4, .ptr w16 0 5), (7, iv (best)), (8, iv (x27)), (10, iv (worst)), (25, v_c_Items), (26, iv ((c_Items.length : Int))), (27, iv (x27)), (77, bv j)], .row b9 1 [a30.could.v] :: .row w16 5 [iv (y16_2), v_c_Book_Gatherings, v_c_Items, y16_3.v, w16_2] :: ownL true w16_2 encI y16_4 :: .row b1 3 [iv (c_Book_Signed), v_c_Book_Gatherings, v_c_Items] :: C⟩) h
      ·intro j h;refine zT rfl (zM R4 ?_);obtain ⟨c72, hc72⟩ := zY (best < 0);refine zV R3 (Val.lss hc72 rfl rfl) (zM R4 ?_);obtain ⟨rfl, hc72, h⟩ | ⟨rfl, hc72, h⟩ := zI hc72 h
       ·refine zO R3 (zO R3 (zO R3 (zP R6 (zN ?_))));cases h;exact ⟨rfl, (), (sb .refl)⟩
       refine zM R4 (zM R4 ?_);obtain ⟨c76, hc76⟩ := zY (worst < best);refine zV R3 (Val.lss hc76 rfl rfl) (zP R6 (zN ?_));subst hc76;cases h;exact ⟨rfl, (), (sb .refl)⟩
      ·rintro x77 _ h;obtain ⟨rfl, h⟩ | ⟨rfl, h⟩ := zZ h
       ·refine zC rfl (zT rfl (zM R4 (zM R4 (zA R4 (zA R4 (zN ?_))))));cases h;exact ⟨rfl, (), (sb (pk [1,1,1,98] rfl))⟩
       refine zD rfl (zK ?_);cases h;exact ⟨rfl, (), (sb (pk [1,1,1,98] rfl))⟩
    ·rintro ⟨item_2, best_2⟩ _ h;dsimp only at h;dsimp only;refine zT rfl ?_;obtain ⟨hk80, h⟩ := chk_some h;refine zV R3 (Val.add rfl rfl hk80) (zM R4 (zN ?_));cases h;exact ⟨rfl, (), (sb .refl)⟩
   refine zD rfl (zE ?_);cases h;exact ⟨ex_ne, ⟨rfl, (), (sb .refl)⟩⟩
  ·rintro ⟨item, best⟩ _ h;dsimp only at h;dsimp only;refine zS (zU rfl (zM R4 ?_));obtain ⟨c82, hc82⟩ := zY (best < 0);refine zV R3 (Val.lss hc82 rfl rfl) (zN ?_);obtain ⟨rfl, hc82, h⟩ | ⟨rfl, hc82, h⟩ := zI hc82 h
   ·refine zC rfl (zU rfl (zA R4 (zA R4 (zN (zR ?_)))));cases h;exact ⟨rfl, _, rfl, ⟨(), rfl, (pk [98,98,98] rfl)⟩⟩
   refine zD rfl (zK (zU rfl (zM R4 (zA R4 (zA R4 (zN (zR ?_)))))));cases h;exact ⟨rfl, _, rfl, ⟨(), rfl, (pk [98,98,98] rfl)⟩⟩
theorem w_c_Ask (c_Book_Signed : Int) (c_Book_Gatherings : GS encG) (c_Items : GS encIt) (r : Int × Int) (h : P_c_Ask c_Book_Signed c_Book_Gatherings.l c_Items.l = some r) : Comes (EL 5) 12 [.agg [iv (c_Book_Signed), c_Book_Gatherings.v, c_Items.v]] (.tuple [iv r.1, iv r.2]) :=
 TF.run (tf_c_Ask (Nat.le_refl _) (RdT.gs c_Book_Gatherings) (RdT.gs c_Items) h) fun w => (.tuple (.cons .lit (.cons .lit .nil)))
set_option maxRecDepth 10000 in
theorem tf_r4_Worst {k : Nat} (hk : 4 ≤ k) {C : List Thing} {c_Book_Signed : Int} {v_c_Book_Gatherings : AV} {c_Book_Gatherings : List Gat} {v_c_Items : AV} {c_Items : List Item} {item : Int} (ht_c_Book_Gatherings : RdT encG v_c_Book_Gatherings c_Book_Gatherings) (ht_c_Items : RdT encIt v_c_Items c_Items) {r : Int} (h : P_r4_Worst c_Book_Signed c_Book_Gatherings c_Items item = some r) :
  TF (EL k) 43 [.agg [iv (c_Book_Signed), v_c_Book_Gatherings, v_c_Items], iv (item)] C (RepF (fun (w : Unit) => iv r) (fun (w : Unit) => C)) := by
 unfold P_r4_Worst at h
 have h_c_Book_Gatherings : Rdl C encG v_c_Book_Gatherings c_Book_Gatherings := RdT.rdl ht_c_Book_Gatherings
 have h_c_Items : Rdl C encIt v_c_Items c_Items := RdT.rdl ht_c_Items;refine TF.enter (fn := Go.Proofs.Tryz.f43) rfl rfl rfl rfl rfl (zU rfl (zQ 3 [_,_,_] R7 (fun b2=>zA R4 (zN (zU rfl (zA R4 (zN ?_)))))))
 show T _ _ _ _ _ _;apply T.joinA (r := r) (W := Unit) (fun j w => ⟨[], [(5, iv (j))], .row b2 3 [iv (c_Book_Signed), v_c_Book_Gatherings, v_c_Items] :: C⟩) h
 ·intro j h;refine zU rfl (zA R4 (zN (zB ?_)))
  show T _ _ _ _ _ _;apply T.iter (r := j) (W := Unit) (fun j w => ⟨[], [(1, iv (item)), (2, .ptr b2 0 3), (5, iv (j.1)), (6, iv (j.2))], .row b2 3 [iv (c_Book_Signed), v_c_Book_Gatherings, v_c_Items] :: C⟩) (w0 := ()) h
  ·exact (sb .refl)
  rintro ⟨n, i⟩ _ a h;unfold P_r4_Worst_L1 at h;dsimp only at h;dsimp only;refine zS (zU rfl (zM R4 (zF 2 R6 (zL 0 R3 R6 (zM R4 ?_)))));obtain ⟨a12, hia12, ea12, h⟩ := el_some h;refine TO.fact (rdl_at h_c_Items M1 hia12 ea12) (fun hp=>?_);obtain ⟨pa12, hpa12, hva12⟩ := hp;refine zV R3 (hva12 ⟨rfl, rfl⟩ rfl rfl) (zV R3 (Val.faddr_e (fo := 0) hpa12 rfl rfl rfl) (zV R3 (Val.load_e (PtE.add hpa12 (by decide)) M1 ⟨_, rfl, rfl⟩ rfl rfl) (zV R3 (Val.len_gs rfl rfl) ?_)));obtain ⟨c16, hc16⟩ := zY (i < (a12.could.l.length : Int));refine zV R3 (Val.lss hc16 rfl rfl) (zN ?_);obtain ⟨rfl, hc16, h⟩ | ⟨rfl, hc16, h⟩ := zI hc16 h
  ·refine zC rfl (zK (zS (zB (zS (T.drawE (l1 := [0, 1, 2, 3, 4, 5, 6, 7, 8, 9, 10, 13]) (l2 := [11, 12, 14]) (by kernel_rfl) (by kernel_rfl) (yR R4 (vW 0 [_,_,_] R5 R4) (yL R4 (Val.move rfl) (yL R4 (Val.faddr_ptr (fo := 2) rfl rfl rfl) (yR R4 (vR (p := 0) R6) (yL R4 (Val.move rfl) ?_))))))))));obtain ⟨a24, hia24, ea24, h⟩ := el_some h;refine TD1.fact (rdl_at h_c_Items M1 hia24 ea24) (fun hp=>?_);obtain ⟨pa24, hpa24, hva24⟩ := hp;refine yL R4 (hva24 ⟨rfl, rfl⟩ rfl rfl) (yL R4 (Val.faddr_e (fo := 0) hpa24 rfl rfl rfl) (yR R4 (Val.load_e (PtE.add hpa24 (by decide)) M1 ⟨_, rfl, rfl⟩ rfl rfl) (yL R4 (Val.move rfl) ?_)));obtain ⟨a28, hia28, ea28, h⟩ := el_some h;refine TD1.fact (rdl_at (Rdl.gs (C := C) a24.could) M1 hia28 ea28) (fun hp=>?_);obtain ⟨pa28, hpa28, hva28⟩ := hp;refine yL R4 (hva28 ⟨rfl, rfl⟩ rfl rfl) (yR R4 (Val.load_e hpa28 M1 ⟨_, rfl, rfl⟩ rfl rfl) (TD1.floatN rfl rfl rfl rfl (New.alloc (k := 2) (cells := [_, _]) rfl rfl rfl rfl) (fun b7=>TD1.over (fun v => sameC_refl v) (all_cons (⟨_, rfl, (Val.load_e hpa28 M2 ⟨_, rfl, rfl⟩ rfl rfl)⟩) (all_cons (⟨_, rfl, (Val.load_e (PtE.add hpa24 (by decide)) M2 ⟨_, rfl, rfl⟩ rfl rfl)⟩) (all_cons (⟨_, rfl, (vR (p := 1) R6)⟩) (all_cons (⟨_, rfl, (vW 1 [_,_,_] R5 R4)⟩) all_nil)))) ?_)));refine TD2.callJ (fun v => sameC_refl v) (W := AV × AV) (fun (j : Int × (List Int) × (List Item) × Nat) (w : AV × AV) => .agg [iv (j.1), v_c_Book_Gatherings, w.2]) (fun (j : Int × (List Int) × (List Item) × Nat) (w : AV × AV) => ownL false w.1 encI j.2.1 :: mixL false w.2 j.2.2.1 j.2.2.2 w.1 :: .obj b7 (.row [iv (0), iv (0)] 2 0) :: .row b2 3 [iv (c_Book_Signed), v_c_Book_Gatherings, v_c_Items] :: C) h rfl (by decide) rfl rfl rfl rfl rfl (orcN rfl) ?_ ?_
   ·intro j h;refine TF.enterG (fn := Go.Proofs.Tryz.f70) rfl rfl rfl rfl rfl (zU rfl (zQ 3 [_,_,_] R7 (fun b3=>zJ 3 [_,_,_] R7 (fun b6=>zN (zU rfl (TO.build0 (en := encIt) rfl rfl rfl ⟨rfl, rfl⟩ (fun v7=>zF 2 R6 (zL 2 R3 R6 ?_))))))));obtain ⟨hk10, h⟩ := chk_some h;refine TO.eff rfl rfl rfl (Eff.append_l (b := 24) (en := encIt) (l := ([] : List Item)) (p := 0) ⟨rfl, rfl, rfl, ⟨_, rfl, rfl⟩, by decide, by decide⟩ rfl rfl rfl h_c_Items M5 rfl rfl (en_ones encIt_ones _) (by decide) hk10) ?_;rintro v10 _ rfl;refine zG (_::_::_::_::_::C) rfl (zF 2 R6 (TO.fact (own_cellS (p := 0) rfl) (fun hot5=>TO.eff0 rfl rfl (Eff.store_row (p := 2) (cv := [_]) (cells' := [_, _, _]) rfl rfl rfl rfl rfl hot5.1 rfl rfl (by first | rfl | (simp [GS.one, hot5.2]; done)) (by decide) rfl) ?_)));rintro _ rfl;refine zG (_::_::_::_::_::C) rfl (zN (zU rfl (zF 2 R6 (zL 2 R3 R6 (zM R4 (zM R4 (TO.build1 (en := encI) (a := a28) rfl rfl rfl ⟨rfl, rfl⟩ ⟨_, rfl, rfl⟩ (by decide) (by decide) rfl rfl (fun v16=>TO.fact (own_cellS (p := 0) rfl) (fun hot6=>zV R3 (Val.buildC (cs := [_]) (vs := [(_, _)]) (ws := [(_, [_])]) rfl rfl (CellsL.cons hot6.1 CellsL.nil) rfl) ?_)))))))));obtain ⟨a18, hia18, ea18, h⟩ := el_some h;refine TO.fact (own_at (en := encIt) (p := 1) rfl hia18) (fun hp=>?_);obtain ⟨ida18, ata18⟩ := hp;refine zV R3 (Val.iaddr_at (en := encIt) ata18 ⟨rfl, rfl⟩ rfl rfl hia18) (TO.fact (own_cellS (p := 0) rfl) (fun hot6=>TO.eff0 rfl rfl (Eff.store_mix (p := 1) (a := a18) rfl ata18 ea18 rfl rfl rfl rfl (by first | rfl | (simp [GS.one, hot6.2]; done))) ?_));rintro _ rfl;refine zG (_::_::_::_::_::_::C) rfl (zN (zU rfl (zV R3 (vW 3 [_,_,_] R5 R4) (TO.fact (rdl_cellS h_c_Book_Gatherings M6) (fun hoc_Book_Gatherings=>TO.fact (own_cellS (p := 1) rfl) (fun hot5=>TO.eff0 rfl rfl (Eff.store_row (p := 2) (cv := [_, _, _]) (cells' := [_, _, _]) rfl rfl rfl rfl rfl rfl rfl rfl (by first | rfl | (simp [GS.one, hoc_Book_Gatherings.2, hot5.2]; done) | (simp [GS.one, hoc_Book_Gatherings.2, hot5.2]; (repeat' apply And.intro) <;> rfl)) (by decide) rfl) ?_))))));rintro _ rfl;refine zG (_::_::_::_::_::_::C) rfl (zN (zR ?_));cases h;exact ⟨rfl, _, rfl, [_], ⟨⟨_, rfl, LoadR.rows (p := 2) (c := [_, _, _]) rfl ⟨⟨_, rfl, rfl⟩, rfl, by decide⟩ rfl rfl rfl⟩, trivial⟩, ⟨(v16, v10), rfl, (pk [0,0,2,2,98,98] rfl)⟩⟩
   ·rintro ⟨y30, l16, b6_Book_Signed, i_2⟩ ⟨v6, v7⟩ h;dsimp only at h;refine ⟨(all_cons (.inl (by kernel_rfl)) (all_cons (.inl (by kernel_rfl)) (all_cons (.inl (by kernel_rfl)) (all_cons (.inl (by kernel_rfl)) all_nil)))), (all_cons (.inr (by repeat first | exact List.mem_cons_self | apply List.mem_cons_of_mem)) all_nil), ?_⟩;refine yG (_::_::_::_::C) rfl ?_;obtain ⟨⟨y31, y31_2⟩, hr31, h⟩ := andx_some h;dsimp only at h;obtain ⟨g, hgg, hrg⟩ := Rdl.reif (hs := ownL false v6 encI l16 :: mixL false v7 b6_Book_Signed i_2 v6 :: .obj b7 (.row [iv (0), iv (0)] 2 0) :: .row b2 3 [iv (c_Book_Signed), v_c_Book_Gatherings, v_c_Items] :: C) h_c_Book_Gatherings M4 (ReifL.flat encG_tr);refine TD2.heavy (fun v => sameC_refl v) rfl (by decide) rfl rfl (OpS.call rfl rfl rfl (orcL rfl aD) (.cons (.agg (.cons .lit (.cons (hrg _) (.cons (.mix (p := 1) (q := 0) rfl rfl) .nil)))) .nil) (sem_of (w_r4_Wide y30 g (GSo false encIt (List.set b6_Book_Signed i_2 (⟨GSo false encI l16⟩ : Item))) _ (by try rw [hgg]; exact hr31)))) ?_;rintro _ _ ⟨rfl, rfl⟩;refine ⟨(all_cons (.inl (by kernel_rfl)) (all_cons (.inl (by kernel_rfl)) (all_cons (.inl (by kernel_rfl)) (all_cons (.inl (by kernel_rfl)) all_nil)))), (all_cons (.inr (by repeat first | exact List.mem_cons_self | apply List.mem_cons_of_mem)) all_nil), ?_⟩;refine TD2.less (Less.floatRow (p := 2) rfl) (yG (_::_::_::_::C) rfl (TD2.heavy (fun v => sameC_refl v) rfl (by decide) rfl rfl (OpS.eff (Eff.store_row (p := 2) (cv := [_, _]) (cells' := [_, _]) rfl rfl rfl rfl rfl rfl rfl rfl aG (by decide) rfl)) ?_));rintro _ _ rfl;refine ⟨(all_cons (.inl (by kernel_rfl)) (all_cons (.inl (by kernel_rfl)) (all_cons (.inl (by kernel_rfl)) (all_cons (.inl (by kernel_rfl)) all_nil)))), (all_cons (.inl (by kernel_rfl)) all_nil), ?_⟩;refine yG (_::_::_::_::C) rfl (TD2.nil (zT rfl (zM R4 (zF 1 R6 (zL 2 R3 R6 (zF 0 R6 (zL 2 R3 R6 ?_)))))));obtain ⟨hk37, h⟩ := chk_some h;refine zV R3 (Val.sub rfl rfl hk37) (zV R3 (Val.bmax rfl rfl) (zA R4 (zN (zT rfl (zM R4 ?_)))));obtain ⟨hk18, h⟩ := chk_some h;refine zV R3 (Val.add rfl rfl hk18) (zA R4 (zN ?_));cases h;exact ⟨rfl, (), (sb (pk [3,98,98,98] rfl))⟩
  refine zD rfl (zE ?_);cases h;exact ⟨ex_ne, ⟨rfl, (), (sb .refl)⟩⟩
 ·rintro n _ h;refine zU rfl (zM R4 (zA R4 (zN (zR ?_))));cases h;exact ⟨rfl, _, rfl, ⟨(), rfl, (pk [98] rfl)⟩⟩
theorem w_r4_Worst (c_Book_Signed : Int) (c_Book_Gatherings : GS encG) (c_Items : GS encIt) (item : Int) (r : Int) (h : P_r4_Worst c_Book_Signed c_Book_Gatherings.l c_Items.l item = some r) : Comes (EL 4) 43 [.agg [iv (c_Book_Signed), c_Book_Gatherings.v, c_Items.v], iv (item)] (iv r) :=
 TF.run (tf_r4_Worst (Nat.le_refl _) (RdT.gs c_Book_Gatherings) (RdT.gs c_Items) h) fun w => .lit
set_option maxRecDepth 10000 in
theorem tf_r4_Ask {k : Nat} (hk : 5 ≤ k) {C : List Thing} {c_Book_Signed : Int} {v_c_Book_Gatherings : AV} {c_Book_Gatherings : List Gat} {v_c_Items : AV} {c_Items : List Item} (ht_c_Book_Gatherings : RdT encG v_c_Book_Gatherings c_Book_Gatherings) (ht_c_Items : RdT encIt v_c_Items c_Items) {r : Int × Int} (h : P_r4_Ask c_Book_Signed c_Book_Gatherings c_Items = some r) :
  TF (EL k) 13 [.agg [iv (c_Book_Signed), v_c_Book_Gatherings, v_c_Items]] C (RepF (fun (w : Unit) => .tuple [iv r.1, iv r.2]) (fun (w : Unit) => C)) := by
 unfold P_r4_Ask at h
 have h_c_Book_Gatherings : Rdl C encG v_c_Book_Gatherings c_Book_Gatherings := RdT.rdl ht_c_Book_Gatherings
 have h_c_Items : Rdl C encIt v_c_Items c_Items := RdT.rdl ht_c_Items;refine TF.enter (fn := Go.Proofs.Tryz.f13) rfl rfl rfl rfl rfl (zU rfl (zQ 3 [_,_,_] R7 (fun b1=>zA R4 (zA R4 (zN (zU rfl (zV R3 (vW 0 [_,_,_] R5 R4) ?_)))))));obtain ⟨⟨y11, y11_2, y11_3⟩, hr11, h⟩ := andx_some h;dsimp only at h;obtain ⟨g, hgg, hrg⟩ := Rdl.reif (hs := .row b1 3 [iv (c_Book_Signed), v_c_Book_Gatherings, v_c_Items] :: C) h_c_Book_Gatherings M1 (ReifL.flat encG_tr);obtain ⟨g_2, hgg_2, hrg_2⟩ := Rdl.reif (hs := .row b1 3 [iv (c_Book_Signed), v_c_Book_Gatherings, v_c_Items] :: C) h_c_Items M1 (ReifL.flat encIt_tr);refine TO.call rfl rfl rfl rfl rfl (orcL rfl aD) (.cons (.agg (.cons .lit (.cons (hrg _) (.cons (hrg_2 _) .nil)))) .nil) (sem_of (w_r4_Check c_Book_Signed g g_2 _ (by try rw [hgg]; try rw [hgg_2]; exact hr11))) (zM R4 (zX R5 (zX R5 (zX R5 (zA R4 (zA R4 (zA R4 (zN (zS (zU rfl (zM R4 ?_)))))))))));obtain ⟨c16, hc16⟩ := zY (¬ y11_3 = 0);refine zV R3 (Val.neq hc16 rfl rfl) (zN ?_);obtain ⟨rfl, hc16, h⟩ | ⟨rfl, hc16, h⟩ := zI hc16 h
 ·refine zC rfl (zU rfl (zM R4 (zA R4 (zA R4 (zN (zR ?_))))));cases h;exact ⟨rfl, _, rfl, ⟨(), rfl, (pk [98] rfl)⟩⟩
 refine zD rfl (zK (zU rfl (zA R4 (zN ?_))))
 show T _ _ _ _ _ _;apply T.joinA (r := r) (W := Unit) (fun j w => ⟨[], [(7, iv (j))], .row b1 3 [iv (c_Book_Signed), v_c_Book_Gatherings, v_c_Items] :: C⟩) h
 ·intro j h;refine zU rfl (zA R4 (zN (zB ?_)))
  show T _ _ _ _ _ _;apply T.iter (r := j) (W := Unit) (fun j w => ⟨[], [(1, .ptr b1 0 3), (7, iv (j.1)), (8, iv (j.2))], .row b1 3 [iv (c_Book_Signed), v_c_Book_Gatherings, v_c_Items] :: C⟩) (w0 := ()) h
  ·exact (sb .refl)
  rintro ⟨best, i⟩ _ a h;unfold P_r4_Ask_L1 at h;dsimp only at h;dsimp only;refine zS (zU rfl (zM R4 (zF 2 R6 (zL 0 R3 R6 (zV R3 (Val.len_l h_c_Items M1 rfl rfl) ?_)))));obtain ⟨c22, hc22⟩ := zY (i < (c_Items.length : Int));refine zV R3 (Val.lss hc22 rfl rfl) (zN ?_);obtain ⟨rfl, hc22, h⟩ | ⟨rfl, hc22, h⟩ := zI hc22 h
  ·refine zC rfl (zK ?_)
   show T _ _ _ _ _ _;apply T.joinA (r := a) (W := Unit) (fun j w => ⟨[], [(1, .ptr b1 0 3), (7, iv (j)), (8, iv (i))], .row b1 3 [iv (c_Book_Signed), v_c_Book_Gatherings, v_c_Items] :: C⟩) h
   ·intro j h;refine zB ?_
    show T _ _ _ _ _ _;apply T.joinA (r := j) (W := Unit) (fun j w => ⟨[], [(1, .ptr b1 0 3), (7, iv (best)), (8, iv (i)), (45, bv j)], .row b1 3 [iv (c_Book_Signed), v_c_Book_Gatherings, v_c_Items] :: C⟩) h
    ·intro j h;refine T.draw (fun v => sameC_refl v) (l1 := [0, 1, 2, 3, 4, 5, 6, 7, 8, 9, 10, 11, 12, 13, 15, 16]) (l2 := [14, 17, 18, 19, 20]) (by kernel_rfl) (by kernel_rfl) (zF 2 R6 (zL 0 R3 R6 (zM R4 ?_)));obtain ⟨a28, hia28, ea28, h⟩ := el_some h;refine TO.fact (rdl_at h_c_Items M1 hia28 ea28) (fun hp=>?_);obtain ⟨pa28, hpa28, hva28⟩ := hp;refine zV R3 (hva28 ⟨rfl, rfl⟩ rfl rfl) (zV R3 (Val.faddr_e (fo := 0) hpa28 rfl rfl rfl) (zV R3 (Val.load_e (PtE.add hpa28 (by decide)) M1 ⟨_, rfl, rfl⟩ rfl rfl) (zV R3 (Val.len_gs rfl rfl) ?_)));obtain ⟨c32, hc32⟩ := zY ((a28.could.l.length : Int) > 1);refine zV R3 (Val.gtr hc32 rfl rfl) (zM R4 ?_);obtain ⟨rfl, hc32, h⟩ | ⟨rfl, hc32, h⟩ := zI hc32 h
     ·refine zM R4 ?_;obtain ⟨c35, hc35⟩ := zY (best < 0);refine zV R3 (Val.lss hc35 rfl rfl) (zM R4 ?_);obtain ⟨rfl, hc35, h⟩ | ⟨rfl, hc35, h⟩ := zI hc35 h
      ·refine zO R3 (zO R3 (zO R3 (zO R3 (zO R3 (zO R3 (zO R3 (zP R6 (zP R6 (zN ?_)))))))));cases h;exact ⟨rfl, (), (sb .refl)⟩
      refine zV R3 (vW 0 [_,_,_] R5 R4) (zM R4 (zV R3 (vW 0 [_,_,_] R5 R4) (zM R4 ?_)));obtain ⟨y39, hr39, h⟩ := andx_some h;obtain ⟨g_3, hgg_3, hrg_3⟩ := Rdl.reif (hs := .row b1 3 [iv (c_Book_Signed), v_c_Book_Gatherings, v_c_Items] :: C) h_c_Book_Gatherings M1 (ReifL.flat encG_tr);obtain ⟨g_4, hgg_4, hrg_4⟩ := Rdl.reif (hs := .row b1 3 [iv (c_Book_Signed), v_c_Book_Gatherings, v_c_Items] :: C) h_c_Items M1 (ReifL.flat encIt_tr);refine TO.call rfl rfl rfl rfl rfl (orcL rfl aD) (.cons (.agg (.cons .lit (.cons (hrg_3 _) (.cons (hrg_4 _) .nil)))) (.cons .lit .nil)) (sem_of (w_r4_Worst c_Book_Signed g_3 g_4 i _ (by try rw [hgg_3]; try rw [hgg_4]; exact hr39))) ?_;obtain ⟨y42, hr42, h⟩ := andx_some h;obtain ⟨g_5, hgg_5, hrg_5⟩ := Rdl.reif (hs := .row b1 3 [iv (c_Book_Signed), v_c_Book_Gatherings, v_c_Items] :: C) h_c_Book_Gatherings M1 (ReifL.flat encG_tr);obtain ⟨g_6, hgg_6, hrg_6⟩ := Rdl.reif (hs := .row b1 3 [iv (c_Book_Signed), v_c_Book_Gatherings, v_c_Items] :: C) h_c_Items M1 (ReifL.flat encIt_tr);refine TO.call rfl rfl rfl rfl rfl (orcL rfl aD) (.cons (.agg (.cons .lit (.cons (hrg_5 _) (.cons (hrg_6 _) .nil)))) (.cons .lit .nil)) (sem_of (w_r4_Worst c_Book_Signed g_5 g_6 best _ (by try rw [hgg_5]; try rw [hgg_6]; exact hr42))) ?_;obtain ⟨c43, hc43⟩ := zY (y39 < y42);refine zV R3 (Val.lss hc43 rfl rfl) (zP R6 (zP R6 (zN ?_)));subst hc43;cases h;exact ⟨rfl, (), (sb .refl)⟩
     refine zO R3 (zO R3 (zO R3 (zO R3 (zO R3 (zO R3 (zO R3 (zO R3 (zO R3 (zO R3 (zO R3 (zP R6 (zN ?_))))))))))));cases h;exact ⟨rfl, (), (sb .refl)⟩
    ·rintro x45 _ h;obtain ⟨rfl, h⟩ | ⟨rfl, h⟩ := zZ h
     ·refine zC rfl (zT rfl (zM R4 (zA R4 (zN ?_))));cases h;exact ⟨rfl, (), (sb .refl)⟩
     refine zD rfl (zK ?_);cases h;exact ⟨rfl, (), (sb .refl)⟩
   ·rintro best_2 _ h;refine zT rfl (zM R4 ?_);obtain ⟨hk24, h⟩ := chk_some h;refine zV R3 (Val.add rfl rfl hk24) (zA R4 (zN ?_));cases h;exact ⟨rfl, (), (sb .refl)⟩
  refine zD rfl (zE ?_);cases h;exact ⟨ex_ne, ⟨rfl, (), (sb .refl)⟩⟩
 ·rintro best _ h;refine zS (zU rfl (zM R4 ?_));obtain ⟨c48, hc48⟩ := zY (best < 0);refine zV R3 (Val.lss hc48 rfl rfl) (zN ?_);obtain ⟨rfl, hc48, h⟩ | ⟨rfl, hc48, h⟩ := zI hc48 h
  ·refine zC rfl (zU rfl (zA R4 (zA R4 (zN (zR ?_)))));cases h;exact ⟨rfl, _, rfl, ⟨(), rfl, (pk [98] rfl)⟩⟩
  refine zD rfl (zK (zU rfl (zM R4 (zA R4 (zA R4 (zN (zR ?_)))))));cases h;exact ⟨rfl, _, rfl, ⟨(), rfl, (pk [98] rfl)⟩⟩
theorem w_r4_Ask (c_Book_Signed : Int) (c_Book_Gatherings : GS encG) (c_Items : GS encIt) (r : Int × Int) (h : P_r4_Ask c_Book_Signed c_Book_Gatherings.l c_Items.l = some r) : Comes (EL 5) 13 [.agg [iv (c_Book_Signed), c_Book_Gatherings.v, c_Items.v]] (.tuple [iv r.1, iv r.2]) :=
 TF.run (tf_r4_Ask (Nat.le_refl _) (RdT.gs c_Book_Gatherings) (RdT.gs c_Items) h) fun w => (.tuple (.cons .lit (.cons .lit .nil)))
end Go.Am.YthckcbfijdambaaGreat
end
section
namespace Go.Am
set_option linter.unusedVariables false
noncomputable def P_law_CopyLost (c_Book_Signed : Int) (c_Book_Gatherings : List Gat) (c_Items : List Item) : Option Bool :=
  andx (P_c_Lost c_Book_Signed c_Book_Gatherings c_Items) fun (y13, y13_2, y13_3) =>
    andx (P_r4_Lost c_Book_Signed c_Book_Gatherings c_Items) fun (y19, y19_2, y19_3) =>
      seqx (
        andx (
          andx (P_r1_Ints y13 y19) fun same25 =>
            if same25 = true then
              andx (P_r1_Ints y13_2 y19_2) fun same30 =>
                if same30 = true then
                  some (decide (¬ y13_3 = y19_3))
                else
                  some true
            else
              some true) fun x37 =>
          if x37 = true then
            some (Ex.rt false)
          else
            some (Ex.nx ())) fun _ =>
        andx (P_c_Loose c_Book_Signed c_Book_Gatherings c_Items) fun (y40, y40_2, y40_3) =>
          andx (P_r4_Loose c_Book_Signed c_Book_Gatherings c_Items) fun (y46, y46_2, y46_3) =>
            seqx (
              andx (
                andx (P_r1_Ints y40 y46) fun same52 =>
                  if same52 = true then
                    andx (P_r1_Ints y40_2 y46_2) fun same57 =>
                      if same57 = true then
                        some (decide (¬ y40_3 = y46_3))
                      else
                        some true
                  else
                    some true) fun x64 =>
                if x64 = true then
                  some (Ex.rt false)
                else
                  some (Ex.nx ())) fun _ =>
              andx (P_c_Ask c_Book_Signed c_Book_Gatherings c_Items) fun (y67, y67_2) =>
                andx (P_r4_Ask c_Book_Signed c_Book_Gatherings c_Items) fun (y72, y72_2) =>
                  andx (
                    if y67 = y72 then
                      if y67_2 = y72_2 then
                        some true
                      else
                        some false
                    else
                      some false) fun x2 =>
                    some x2
end Go.Am
end
section
namespace Go.Am.YthckcbfijdambaaGreat
open Go.Am Go.RowKit
set_option linter.unusedVariables false
set_option linter.unusedSimpArgs false
set_option maxRecDepth 10000 in
theorem tf_law_CopyLost {k : Nat} (hk : 6 ≤ k) {C : List Thing} {c_Book_Signed : Int} {v_c_Book_Gatherings : AV} {c_Book_Gatherings : List Gat} {v_c_Items : AV} {c_Items : List Item} (ht_c_Book_Gatherings : RdT encG v_c_Book_Gatherings c_Book_Gatherings) (ht_c_Items : RdT encIt v_c_Items c_Items) {r : Bool} (h : P_law_CopyLost c_Book_Signed c_Book_Gatherings c_Items = some r) :
  TF (EL k) 3 [.agg [iv (c_Book_Signed), v_c_Book_Gatherings, v_c_Items]] C (RepF (fun (w : Unit) => bv r) (fun (w : Unit) => C)) := by
 unfold P_law_CopyLost at h
 have h_c_Book_Gatherings : Rdl C encG v_c_Book_Gatherings c_Book_Gatherings := RdT.rdl ht_c_Book_Gatherings
 have h_c_Items : Rdl C encIt v_c_Items c_Items := RdT.rdl ht_c_Items;refine TF.enter (fn := Go.Proofs.Tryz.f3) rfl rfl rfl rfl rfl (zU rfl (zQ 3 [_,_,_] R7 (fun b1=>zA R4 (zN (zU rfl (zV R3 (vW 0 [_,_,_] R5 R4) ?_))))));obtain ⟨⟨y13, y13_2, y13_3⟩, hr13, h⟩ := andx_some h;dsimp only at h;obtain ⟨g, hgg, hrg⟩ := Rdl.reif (hs := .row b1 3 [iv (c_Book_Signed), v_c_Book_Gatherings, v_c_Items] :: C) h_c_Book_Gatherings M1 (ReifL.flat encG_tr);obtain ⟨g_2, hgg_2, hrg_2⟩ := Rdl.reif (hs := .row b1 3 [iv (c_Book_Signed), v_c_Book_Gatherings, v_c_Items] :: C) h_c_Items M1 (ReifL.flat encIt_tr);refine TO.call rfl rfl rfl rfl rfl (orcL rfl aD) (.cons (.agg (.cons .lit (.cons (hrg _) (.cons (hrg_2 _) .nil)))) .nil) (sem_of (w_c_Lost c_Book_Signed g g_2 _ (by try rw [hgg]; try rw [hgg_2]; exact hr13))) (zM R4 (zX R5 (zX R5 (zX R5 (zA R4 (zA R4 (zA R4 (zN (zU rfl (zV R3 (vW 0 [_,_,_] R5 R4) ?_))))))))));obtain ⟨⟨y19, y19_2, y19_3⟩, hr19, h⟩ := andx_some h;dsimp only at h;obtain ⟨g_3, hgg_3, hrg_3⟩ := Rdl.reif (hs := .row b1 3 [iv (c_Book_Signed), v_c_Book_Gatherings, v_c_Items] :: C) h_c_Book_Gatherings M1 (ReifL.flat encG_tr);obtain ⟨g_4, hgg_4, hrg_4⟩ := Rdl.reif (hs := .row b1 3 [iv (c_Book_Signed), v_c_Book_Gatherings, v_c_Items] :: C) h_c_Items M1 (ReifL.flat encIt_tr);refine TO.call rfl rfl rfl rfl rfl (orcL rfl aD) (.cons (.agg (.cons .lit (.cons (hrg_3 _) (.cons (hrg_4 _) .nil)))) .nil) (sem_of (w_r4_Lost c_Book_Signed g_3 g_4 _ (by try rw [hgg_3]; try rw [hgg_4]; exact hr19))) (zM R4 (zX R5 (zX R5 (zX R5 (zA R4 (zA R4 (zA R4 (zN ?_))))))))
 show T _ _ _ _ _ _;apply T.join (r := r) (W := Unit) (fun j w => ⟨[], [(1, .ptr b1 0 3)], .row b1 3 [iv (c_Book_Signed), v_c_Book_Gatherings, v_c_Items] :: C⟩) h
 ·intro j h
  show T _ _ _ _ _ _;apply T.joinA (r := j) (W := Unit) (fun j w => ⟨[], [(1, .ptr b1 0 3), (37, bv j)], .row b1 3 [iv (c_Book_Signed), v_c_Book_Gatherings, v_c_Items] :: C⟩) h
  ·intro j h;refine zT rfl (zM R4 (zM R4 ?_));obtain ⟨same25, hr25, h⟩ := andx_some h;refine TO.call rfl rfl rfl rfl rfl (orcL rfl aD) (.cons .gs (.cons .gs .nil)) (sem_of (w_r1_Ints (GSo true encI y13) (GSo true encI y19) _ (by exact hr25))) (zV R3 (Val.not rfl) (zM R4 ?_));obtain ⟨rfl, h⟩ | ⟨rfl, h⟩ := zZ h
   ·refine zM R4 (zM R4 ?_);obtain ⟨same30, hr30, h⟩ := andx_some h;refine TO.call rfl rfl rfl rfl rfl (orcL rfl aD) (.cons .gs (.cons .gs .nil)) (sem_of (w_r1_Ints (GSo true encI y13_2) (GSo true encI y19_2) _ (by exact hr30))) (zV R3 (Val.not rfl) (zP R6 (zM R4 ?_)));obtain ⟨rfl, h⟩ | ⟨rfl, h⟩ := zZ h
    ·refine zM R4 (zM R4 ?_);obtain ⟨c36, hc36⟩ := zY (¬ y13_3 = y19_3);refine zV R3 (Val.neq hc36 rfl rfl) (zP R6 (zN ?_));subst hc36;cases h;exact ⟨rfl, (), (sb .refl)⟩
    refine zO R3 (zO R3 (zO R3 (zP R6 (zN ?_))));cases h;exact ⟨rfl, (), (sb .refl)⟩
   refine zO R3 (zO R3 (zO R3 (zO R3 (zP R6 (zM R4 (zO R3 (zO R3 (zO R3 (zP R6 (zN ?_))))))))));cases h;exact ⟨rfl, (), (sb .refl)⟩
  ·rintro x37 _ h;obtain ⟨rfl, h⟩ | ⟨rfl, h⟩ := zZ h
   ·refine zC rfl (zU rfl (zA R4 (zN (zR ?_))));cases h;exact ⟨ret_ne, ⟨rfl, _, rfl, ⟨(), rfl, (pk [98] rfl)⟩⟩⟩
   refine zD rfl (zK ?_);cases h;exact ⟨rfl, (), (sb .refl)⟩
 ·rintro _ _ h;refine zU rfl (zV R3 (vW 0 [_,_,_] R5 R4) ?_);obtain ⟨⟨y40, y40_2, y40_3⟩, hr40, h⟩ := andx_some h;dsimp only at h;obtain ⟨g_5, hgg_5, hrg_5⟩ := Rdl.reif (hs := .row b1 3 [iv (c_Book_Signed), v_c_Book_Gatherings, v_c_Items] :: C) h_c_Book_Gatherings M1 (ReifL.flat encG_tr);obtain ⟨g_6, hgg_6, hrg_6⟩ := Rdl.reif (hs := .row b1 3 [iv (c_Book_Signed), v_c_Book_Gatherings, v_c_Items] :: C) h_c_Items M1 (ReifL.flat encIt_tr);refine TO.call rfl rfl rfl rfl rfl (orcL rfl aD) (.cons (.agg (.cons .lit (.cons (hrg_5 _) (.cons (hrg_6 _) .nil)))) .nil) (sem_of (w_c_Loose c_Book_Signed g_5 g_6 _ (by try rw [hgg_5]; try rw [hgg_6]; exact hr40))) (zM R4 (zX R5 (zX R5 (zX R5 (zA R4 (zA R4 (zA R4 (zN (zU rfl (zV R3 (vW 0 [_,_,_] R5 R4) ?_))))))))));obtain ⟨⟨y46, y46_2, y46_3⟩, hr46, h⟩ := andx_some h;dsimp only at h;obtain ⟨g_7, hgg_7, hrg_7⟩ := Rdl.reif (hs := .row b1 3 [iv (c_Book_Signed), v_c_Book_Gatherings, v_c_Items] :: C) h_c_Book_Gatherings M1 (ReifL.flat encG_tr);obtain ⟨g_8, hgg_8, hrg_8⟩ := Rdl.reif (hs := .row b1 3 [iv (c_Book_Signed), v_c_Book_Gatherings, v_c_Items] :: C) h_c_Items M1 (ReifL.flat encIt_tr);refine TO.call rfl rfl rfl rfl rfl (orcL rfl aD) (.cons (.agg (.cons .lit (.cons (hrg_7 _) (.cons (hrg_8 _) .nil)))) .nil) (sem_of (w_r4_Loose c_Book_Signed g_7 g_8 _ (by try rw [hgg_7]; try rw [hgg_8]; exact hr46))) (zM R4 (zX R5 (zX R5 (zX R5 (zA R4 (zA R4 (zA R4 (zN ?_))))))))
  show T _ _ _ _ _ _;apply T.join (r := r) (W := Unit) (fun j w => ⟨[], [(1, .ptr b1 0 3)], .row b1 3 [iv (c_Book_Signed), v_c_Book_Gatherings, v_c_Items] :: C⟩) h
  ·intro j h
   show T _ _ _ _ _ _;apply T.joinA (r := j) (W := Unit) (fun j w => ⟨[], [(1, .ptr b1 0 3), (64, bv j)], .row b1 3 [iv (c_Book_Signed), v_c_Book_Gatherings, v_c_Items] :: C⟩) h
   ·intro j h;refine zT rfl (zM R4 (zM R4 ?_));obtain ⟨same52, hr52, h⟩ := andx_some h;refine TO.call rfl rfl rfl rfl rfl (orcL rfl aD) (.cons .gs (.cons .gs .nil)) (sem_of (w_r1_Ints (GSo true encI y40) (GSo true encI y46) _ (by exact hr52))) (zV R3 (Val.not rfl) (zM R4 ?_));obtain ⟨rfl, h⟩ | ⟨rfl, h⟩ := zZ h
    ·refine zM R4 (zM R4 ?_);obtain ⟨same57, hr57, h⟩ := andx_some h;refine TO.call rfl rfl rfl rfl rfl (orcL rfl aD) (.cons .gs (.cons .gs .nil)) (sem_of (w_r1_Ints (GSo true encI y40_2) (GSo true encI y46_2) _ (by exact hr57))) (zV R3 (Val.not rfl) (zP R6 (zM R4 ?_)));obtain ⟨rfl, h⟩ | ⟨rfl, h⟩ := zZ h
     ·refine zM R4 (zM R4 ?_);obtain ⟨c63, hc63⟩ := zY (¬ y40_3 = y46_3);refine zV R3 (Val.neq hc63 rfl rfl) (zP R6 (zN ?_));subst hc63;cases h;exact ⟨rfl, (), (sb .refl)⟩
     refine zO R3 (zO R3 (zO R3 (zP R6 (zN ?_))));cases h;exact ⟨rfl, (), (sb .refl)⟩
    refine zO R3 (zO R3 (zO R3 (zO R3 (zP R6 (zM R4 (zO R3 (zO R3 (zO R3 (zP R6 (zN ?_))))))))));cases h;exact ⟨rfl, (), (sb .refl)⟩
   ·rintro x64 _ h;obtain ⟨rfl, h⟩ | ⟨rfl, h⟩ := zZ h
    ·refine zC rfl (zU rfl (zA R4 (zN (zR ?_))));cases h;exact ⟨ret_ne, ⟨rfl, _, rfl, ⟨(), rfl, (pk [98] rfl)⟩⟩⟩
    refine zD rfl (zK ?_);cases h;exact ⟨rfl, (), (sb .refl)⟩
  ·rintro _ _ h;refine zU rfl (zV R3 (vW 0 [_,_,_] R5 R4) ?_);obtain ⟨⟨y67, y67_2⟩, hr67, h⟩ := andx_some h;dsimp only at h;obtain ⟨g_9, hgg_9, hrg_9⟩ := Rdl.reif (hs := .row b1 3 [iv (c_Book_Signed), v_c_Book_Gatherings, v_c_Items] :: C) h_c_Book_Gatherings M1 (ReifL.flat encG_tr);obtain ⟨g_10, hgg_10, hrg_10⟩ := Rdl.reif (hs := .row b1 3 [iv (c_Book_Signed), v_c_Book_Gatherings, v_c_Items] :: C) h_c_Items M1 (ReifL.flat encIt_tr);refine TO.call rfl rfl rfl rfl rfl (orcL rfl aD) (.cons (.agg (.cons .lit (.cons (hrg_9 _) (.cons (hrg_10 _) .nil)))) .nil) (sem_of (w_c_Ask c_Book_Signed g_9 g_10 _ (by try rw [hgg_9]; try rw [hgg_10]; exact hr67))) (zM R4 (zX R5 (zX R5 (zA R4 (zA R4 (zN (zU rfl (zV R3 (vW 0 [_,_,_] R5 R4) ?_))))))));obtain ⟨⟨y72, y72_2⟩, hr72, h⟩ := andx_some h;dsimp only at h;obtain ⟨g_11, hgg_11, hrg_11⟩ := Rdl.reif (hs := .row b1 3 [iv (c_Book_Signed), v_c_Book_Gatherings, v_c_Items] :: C) h_c_Book_Gatherings M1 (ReifL.flat encG_tr);obtain ⟨g_12, hgg_12, hrg_12⟩ := Rdl.reif (hs := .row b1 3 [iv (c_Book_Signed), v_c_Book_Gatherings, v_c_Items] :: C) h_c_Items M1 (ReifL.flat encIt_tr);refine TO.call rfl rfl rfl rfl rfl (orcL rfl aD) (.cons (.agg (.cons .lit (.cons (hrg_11 _) (.cons (hrg_12 _) .nil)))) .nil) (sem_of (w_r4_Ask c_Book_Signed g_11 g_12 _ (by try rw [hgg_11]; try rw [hgg_12]; exact hr72))) (zM R4 (zX R5 (zX R5 (zA R4 (zA R4 (zN ?_))))))
   show T _ _ _ _ _ _;apply T.joinA (r := r) (W := Unit) (fun j w => ⟨[], [(2, bv j)], .row b1 3 [iv (c_Book_Signed), v_c_Book_Gatherings, v_c_Items] :: C⟩) h
   ·intro j h;refine zT rfl (zM R4 (zM R4 ?_));obtain ⟨c77, hc77⟩ := zY (y67 = y72);refine zV R3 (Val.eql hc77 rfl rfl) (zM R4 ?_);obtain ⟨rfl, hc77, h⟩ | ⟨rfl, hc77, h⟩ := zI hc77 h
    ·refine zM R4 (zM R4 ?_);obtain ⟨c81, hc81⟩ := zY (y67_2 = y72_2);refine zV R3 (Val.eql hc81 rfl rfl) (zP R6 (zM R4 ?_));obtain ⟨rfl, hc81, h⟩ | ⟨rfl, hc81, h⟩ := zI hc81 h
     ·refine TO.call rfl rfl rfl rfl rfl orcA .nil rfl (zP R6 (zA R4 (zN ?_)));cases h;exact ⟨rfl, (), (sb .refl)⟩
     refine zO R3 (zP R6 (zA R4 (zN ?_)));cases h;exact ⟨rfl, (), (sb .refl)⟩
    refine zO R3 (zO R3 (zO R3 (zP R6 (zM R4 (zO R3 (zP R6 (zA R4 (zN ?_))))))));cases h;exact ⟨rfl, (), (sb .refl)⟩
   ·rintro x2 _ h;refine zR ?_;cases h;exact ⟨rfl, _, rfl, ⟨(), rfl, (pk [98] rfl)⟩⟩
theorem w_law_CopyLost (c_Book_Signed : Int) (c_Book_Gatherings : GS encG) (c_Items : GS encIt) (r : Bool) (h : P_law_CopyLost c_Book_Signed c_Book_Gatherings.l c_Items.l = some r) : Comes (EL 6) 3 [.agg [iv (c_Book_Signed), c_Book_Gatherings.v, c_Items.v]] (bv r) :=
 TF.run (tf_law_CopyLost (Nat.le_refl _) (RdT.gs c_Book_Gatherings) (RdT.gs c_Items) h) fun w => .lit
end Go.Am.YthckcbfijdambaaGreat
end
section
namespace Go.Am
open Go.RowKit
def Lifts (P : Program) (t : TypeId) {α : Type} (e : En α) : Prop :=
 ∀ (H : Type) (enc : TypeId × Value → H) (W : World) (base : Nat) (held : Bool) (fuel : Nat) (cs : List Value) (x : DataW H × List MemPlace),
  DataW.trod enc P W base (fun _ => true) held fuel t cs = some x → ∃ a : α, RelL (snapR W 0) (e.f a) cs
theorem Lifts.int {P : Program} {t : TypeId} (ht : P.underlying t = some (.int .i64)) : Lifts P t encI := by
 intro H enc W base held fuel cs x hx;obtain ⟨n, rfl, _, _⟩ := DataW.trod_int ht hx;exact ⟨n, .cons (.lit _) (.nil _)⟩
theorem snap_cell {W : World} {b off : Nat} {v : Value} (h : W.cell? ⟨b, off, none⟩ = some v) : ∃ c, (snapR W 0).imm b = some c ∧ c[off]? = some v := by
 unfold World.cell? at h;split at h
 ·rename_i c _ _ hb
  simp at h;exact ⟨c, by simp only [snapR, snap, Nat.zero_le, if_true]; simp only [] at hb; rw [hb], h⟩
 ·cases h
theorem list_of {α : Type} {p : Nat → α → Prop} : ∀ n : Nat, (∀ i, i < n → ∃ a, p i a) → ∃ l : List α, l.length = n ∧ ∀ i a, l[i]? = some a → p i a := by
 intro n
 induction n with
 | zero => intro _; exact ⟨[], rfl, fun i a h => by simp at h⟩
 | succ n ih =>
  intro h;obtain ⟨l, h1, h2⟩ := ih fun i hi => h i (by omega)
  obtain ⟨a, ha⟩ := h n (by omega);refine ⟨l ++ [a], by simp [h1], fun i b hb => ?_⟩
  by_cases hi : i < l.length
  ·rw [List.getElem?_append_left hi] at hb; exact h2 i b hb
  ·rw [List.getElem?_append_right (by omega)] at hb
   have : i - l.length = 0 := by
    have := (List.getElem?_eq_some_iff.1 hb).1;simp at this; omega
   rw [this] at hb;simp at hb;subst hb
   have : i = n := by omega
   rw [this]; exact ha
theorem Lifts.slice {P : Program} {t e : TypeId} {α : Type} {en : En α} (ht : P.underlying t = some (.slice e)) (hu : P.cellsOf e = en.u) (h0 : 0 < en.u) (h : Lifts P e en) : Lifts P t (encSl en) := by
 intro H enc W base held fuel cs x hx
 rcases DataW.trod_slice ht hx with ⟨rfl, _⟩ | ⟨a, len, cap, elems, rest, n, _, rfl, _, hb, hl, _, hlen, hel, hsp, _⟩
 ·exact ⟨⟨nilS, [], .inl ⟨rfl, rfl, rfl⟩⟩, .cons (.lit _) (.nil _)⟩
 ·rw [hu] at hel hsp;obtain ⟨hrl, hr⟩ := hsp rfl
  by_cases hc : cap = 0
  ·subst hc
   have : len = 0 := by omega
   subst this;exact ⟨⟨.tree en.u 0 [], [], .inr ⟨rfl, by simp⟩⟩, .cons .tree0 (.nil _)⟩
  ·have hcell : ∀ i, i < len → ∃ (a' : α) (ci : List Value), W.cells? base (a.add (i * en.u)) en.u = some ci ∧ RelL (snapR W 0) (en.f a') ci := by
    intro i hi
    have he := hel i hi;rw [List.getElem?_eq_getElem (by omega)] at he;obtain ⟨ci, h1, h2⟩ := Option.bind_eq_some_iff.1 he;obtain ⟨a', h3⟩ := h _ _ _ _ _ _ _ _ h2;exact ⟨a', ci, h1, h3⟩
   have hspot : a.spot = none := by
    have : ∃ ci, W.cells? base (a.add (0 * en.u)) en.u = some ci := by
     by_cases hl0 : 0 < len
     ·obtain ⟨_, ci, h1, _⟩ := hcell 0 hl0;exact ⟨ci, h1⟩
     ·have hz : len = 0 := by omega
      have he := hr 0 (by omega);rw [List.getElem?_eq_getElem (by omega)] at he;obtain ⟨ci, h1, _⟩ := Option.bind_eq_some_iff.1 he;exact ⟨ci, by simpa [hz] using h1⟩
    obtain ⟨ci, h1⟩ := this;obtain ⟨_, h2, h3⟩ := World.cells?_some h1
    have h4 := h3 0 h0;rw [List.getElem?_eq_getElem (by omega)] at h4
    have := World.cell?_spot h4
    simpa [Addr.add] using this
   obtain ⟨b, off, sp⟩ := a;simp only at hspot;subst hspot;obtain ⟨l, hl1, hl2⟩ := list_of (p := fun i a' => ∃ ci : List Value, W.cells? base ((⟨b, off, none⟩ : Addr).add (i * en.u)) en.u = some ci ∧ RelL (snapR W 0) (en.f a') ci) len hcell
   have hfl : (l.flatMap en.f).length = len * en.u := by rw [flat_len, hl1]
   have each : ∀ j, j < len * en.u → ∃ v y c, (l.flatMap en.f)[j]? = some v ∧ (snapR W 0).imm b = some c ∧ c[off + j]? = some y ∧ RelV (snapR W 0) v y := by
    intro j hj
    have hi : j / en.u < l.length := by rw [hl1]; exact Nat.div_lt_of_lt_mul (by rw [Nat.mul_comm]; exact hj)
    have hk : j % en.u < en.u := Nat.mod_lt _ h0
    have hd : j / en.u * en.u + j % en.u = j := by rw [Nat.mul_comm]; exact Nat.div_add_mod j en.u
    obtain ⟨ci, h1, h2⟩ := hl2 _ _ (List.getElem?_eq_getElem hi);obtain ⟨_, h3, h4⟩ := World.cells?_some h1
    have h5 := h4 _ hk;rw [List.getElem?_eq_getElem (by omega)] at h5
    have h6 : ((⟨b, off, none⟩ : Addr).add (j / en.u * en.u)).add (j % en.u) = ⟨b, off + j, none⟩ := by
     simp only [addr_add]
     congr 1
     omega
    rw [h6] at h5;obtain ⟨c, h7, h8⟩ := snap_cell h5
    have hlen' := en.len l[j / en.u]
    have hv := List.getElem?_eq_getElem (l := en.f l[j / en.u]) (i := j % en.u) (by omega);refine ⟨_, _, c, ?_, h7, h8, h2.2 _ _ _ hv (List.getElem?_eq_getElem _)⟩
    have := flat_get (en := en) (List.getElem?_eq_getElem hi) hk;rw [hd] at this;rw [this, hv]
   refine ⟨⟨.tree en.u l.length (l.flatMap en.f), l, .inr ⟨rfl, by rw [hfl, hl1]⟩⟩, .cons ?_ (.nil _)⟩
   show RelV _ (.tree en.u l.length (l.flatMap en.f)) _;rw [hl1]
   by_cases hz : len * en.u = 0
   ·refine .tree (c := #[]) hfl hl (.inl (List.eq_nil_of_length_eq_zero (by omega))) fun i v x hv hx => by simp at hx
   ·obtain ⟨_, _, c, _, hc1, _, _⟩ := each (len * en.u - 1) (by omega);refine .tree (c := c) hfl hl (.inr ⟨hc1, ?_⟩) fun j v y hv hy => ?_
    ·obtain ⟨_, _, c', _, hc2, hc3, _⟩ := each (len * en.u - 1) (by omega);rw [hc1] at hc2;cases hc2
     have := (Array.getElem?_eq_some_iff.1 hc3).1;omega
    ·have hj := (List.getElem?_eq_some_iff.1 hv).1;obtain ⟨v', y', c', e1, e2, e3, e4⟩ := each j (by omega);rw [hc1] at e2;cases e2;rw [hv] at e1;rw [hy] at e3;cases e1;cases e3;exact e4
theorem RelL.glue {r : Ren} {a b : List AV} {cs : List Value} {n : Nat} (h1 : RelL r a (cs.take n)) (h2 : RelL r b (cs.drop n)) : RelL r (a ++ b) cs := by
 have := h1.append h2
 rwa [List.take_append_drop] at this
end Go.Am
end
section
namespace Go.Am
open Go.RowKit
def enPair {α β : Type} (a : En α) (b : En β) : En (α × β) := ⟨a.u + b.u, fun p => a.f p.1 ++ b.f p.2, fun p => by simp [a.len, b.len]⟩
theorem Lifts.map {P : Program} {t : TypeId} {α β : Type} {a : En α} {b : En β} (h : Lifts P t a) (hf : ∀ x, ∃ y, b.f y = a.f x) : Lifts P t b := by
 intro H enc W base held fuel cs x hx;obtain ⟨v, hv⟩ := h _ _ _ _ _ _ _ _ hx;obtain ⟨y, hy⟩ := hf v;exact ⟨y, by rw [hy]; exact hv⟩
theorem Lifts.struct1 {P : Program} {t : TypeId} {f0 : Field} {α : Type} {a : En α} (ht : P.underlying t = some (.struct #[f0])) (o0 : f0.offset = 0) (c0 : P.cellsOf f0.type = a.u) (ct : P.cellsOf t = a.u)
  (l0 : Lifts P f0.type a) : Lifts P t a := by
 intro H enc W base held fuel cs x hx;obtain ⟨xs, n, _, _, hl, hn, h⟩ := DataW.trod_struct ht hx
 have hn1 : xs.length = 1 := hn
 have h0 := h 0 f0 rfl;rw [List.getElem?_eq_getElem (by omega), o0, c0, List.drop_zero, List.take_of_length_le (by omega)] at h0;exact l0 _ _ _ _ _ _ _ _ h0
theorem Lifts.struct2 {P : Program} {t : TypeId} {f0 f1 : Field} {α β : Type} {a : En α} {b : En β} (ht : P.underlying t = some (.struct #[f0, f1])) (o0 : f0.offset = 0) (o1 : f1.offset = a.u)
  (c0 : P.cellsOf f0.type = a.u) (c1 : P.cellsOf f1.type = b.u) (ct : P.cellsOf t = a.u + b.u) (l0 : Lifts P f0.type a) (l1 : Lifts P f1.type b) : Lifts P t (enPair a b) := by
 intro H enc W base held fuel cs x hx;obtain ⟨xs, n, _, _, hl, hn, h⟩ := DataW.trod_struct ht hx
 have hn1 : xs.length = 2 := hn
 have h0 := h 0 f0 rfl
 have h1 := h 1 f1 rfl;rw [List.getElem?_eq_getElem (by omega), o0, c0, List.drop_zero] at h0;rw [List.getElem?_eq_getElem (by omega), o1, c1, List.take_of_length_le (by simp; omega)] at h1;obtain ⟨x0, r0⟩ := l0 _ _ _ _ _ _ _ _ h0;obtain ⟨x1, r1⟩ := l1 _ _ _ _ _ _ _ _ h1;exact ⟨(x0, x1), .glue r0 r1⟩
theorem Lifts.struct3 {P : Program} {t : TypeId} {f0 f1 f2 : Field} {α β γ : Type} {a : En α} {b : En β} {c : En γ} (ht : P.underlying t = some (.struct #[f0, f1, f2])) (o0 : f0.offset = 0) (o1 : f1.offset = a.u) (o2 : f2.offset = a.u + b.u)
  (c0 : P.cellsOf f0.type = a.u) (c1 : P.cellsOf f1.type = b.u) (c2 : P.cellsOf f2.type = c.u) (ct : P.cellsOf t = a.u + (b.u + c.u)) (l0 : Lifts P f0.type a) (l1 : Lifts P f1.type b) (l2 : Lifts P f2.type c) :
  Lifts P t (enPair a (enPair b c)) := by
 intro H enc W base held fuel cs x hx;obtain ⟨xs, n, _, _, hl, hn, h⟩ := DataW.trod_struct ht hx
 have hn1 : xs.length = 3 := hn
 have h0 := h 0 f0 rfl
 have h1 := h 1 f1 rfl
 have h2 := h 2 f2 rfl;rw [List.getElem?_eq_getElem (by omega), o0, c0, List.drop_zero] at h0;rw [List.getElem?_eq_getElem (by omega), o1, c1] at h1;rw [List.getElem?_eq_getElem (by omega), o2, c2, ← List.drop_drop, List.take_of_length_le (by simp; omega)] at h2;obtain ⟨x0, r0⟩ := l0 _ _ _ _ _ _ _ _ h0;obtain ⟨x1, r1⟩ := l1 _ _ _ _ _ _ _ _ h1;obtain ⟨x2, r2⟩ := l2 _ _ _ _ _ _ _ _ h2;exact ⟨(x0, x1, x2), .glue r0 (.glue r1 r2)⟩
theorem Lifts.arg {P : Program} {t : TypeId} {fs : Array Field} {α : Type} {en : En α} (hl : Lifts P t en) (ht : P.underlying t = some (.struct fs)) {W : World} {r : Reach} {b0 : Nat} {v : Value} (hval : Value.okWide P W r b0 t v)
  {H : Type} {enc : TypeId × Value → H} {base : Nat} {held : Bool} {d : DataW H} {ps : List MemPlace} (h : DataW.Trod enc P W base (fun _ => true) held t v d ps) : ∃ a, RelV (snapR W 0) (.agg (en.f a)) v := by
 simp only [Value.okWide, ht] at hval;obtain ⟨cs, rfl, _, _⟩ := hval;obtain ⟨fuel, hf⟩ := h;obtain ⟨a, ha⟩ := hl _ _ _ _ _ _ _ _ hf;exact ⟨a, by simpa [Value.cells] using RelV.agg ha.1 ha.2⟩
end Go.Am
end
section
namespace Go.Am
open Go.RowKit
set_option linter.unusedVariables false
def encU16 : En UInt16 := ⟨1, fun b => [ivk .u16 (b.toNat : Int)], fun _ => rfl⟩
theorem Lifts.u8 {P : Program} {t : TypeId} (ht : P.underlying t = some (.int .u8)) : Lifts P t encU8 := by
 intro H enc W base held fuel cs x hx;obtain ⟨n, rfl, _, hw⟩ := DataW.trod_int ht hx
 have hw : 0 ≤ n ∧ n ≤ 255 := by
  have := Bool.and_eq_true_iff.1 hw;exact ⟨of_decide_eq_true this.1, of_decide_eq_true this.2⟩
 have e : ((UInt8.ofNat n.toNat).toNat : Int) = n := by rw [UInt8.toNat_ofNat']; omega
 refine ⟨UInt8.ofNat n.toNat, .cons ?_ (.nil _)⟩;rw [e];exact .lit _
theorem Lifts.u16 {P : Program} {t : TypeId} (ht : P.underlying t = some (.int .u16)) : Lifts P t encU16 := by
 intro H enc W base held fuel cs x hx;obtain ⟨n, rfl, _, hw⟩ := DataW.trod_int ht hx
 have hw : 0 ≤ n ∧ n ≤ 65535 := by
  have := Bool.and_eq_true_iff.1 hw;exact ⟨of_decide_eq_true this.1, of_decide_eq_true this.2⟩
 have e : ((UInt16.ofNat n.toNat).toNat : Int) = n := by rw [UInt16.toNat_ofNat']; omega
 refine ⟨UInt16.ofNat n.toNat, .cons ?_ (.nil _)⟩;rw [e];exact .lit _
end Go.Am
end
section
namespace Go.Am.YthckcbfijdambaaGreat
open Go.Am Go.RowKit Go.Proofs
theorem li_3 : Lifts Tryz.prog 3 encI := .int Tryz.underlying3
theorem li_107 : Lifts Tryz.prog 107 (enPair encI encI) := Lifts.struct2 Tryz.underlying107 rfl rfl (by kernel_rfl) (by kernel_rfl) (by kernel_rfl) li_3 li_3
theorem li_133 : Lifts Tryz.prog 133 encC := (Lifts.struct3 Tryz.underlying133 rfl rfl rfl (by kernel_rfl) (by kernel_rfl) (by kernel_rfl) (by kernel_rfl) li_3 li_3 li_3).map fun x => ⟨⟨x.1, x.2.1, x.2.2⟩, rfl⟩
theorem li_108 : Lifts Tryz.prog 108 (encSl encC) := .slice Tryz.underlying108 (by kernel_rfl) (by decide) li_133
theorem li_110 : Lifts Tryz.prog 110 encG := (Lifts.struct3 Tryz.underlying110 rfl rfl rfl (by kernel_rfl) (by kernel_rfl) (by kernel_rfl) (by kernel_rfl) li_107 li_3 li_108).map fun x => ⟨⟨x.1.1, x.1.2, x.2.1, x.2.2⟩, rfl⟩
theorem li_22 : Lifts Tryz.prog 22 (encSl encG) := .slice Tryz.underlying22 (by kernel_rfl) (by decide) li_110
theorem li_24 : Lifts Tryz.prog 24 encB := (Lifts.struct2 Tryz.underlying24 rfl rfl (by kernel_rfl) (by kernel_rfl) (by kernel_rfl) li_3 li_22).map fun x => ⟨⟨x.1, x.2⟩, rfl⟩
theorem li_28 : Lifts Tryz.prog 28 (encSl encI) := .slice Tryz.underlying28 (by kernel_rfl) (by decide) li_3
theorem li_54 : Lifts Tryz.prog 54 encIt := (Lifts.struct1 Tryz.underlying54 rfl (by kernel_rfl) (by kernel_rfl) li_28).map fun x => ⟨⟨x⟩, rfl⟩
theorem li_25 : Lifts Tryz.prog 25 (encSl encIt) := .slice Tryz.underlying25 (by kernel_rfl) (by decide) li_54
theorem li_27 : Lifts Tryz.prog 27 encCa := (Lifts.struct2 Tryz.underlying27 rfl rfl (by kernel_rfl) (by kernel_rfl) (by kernel_rfl) li_24 li_25).map fun x => ⟨⟨x.1, x.2⟩, rfl⟩
theorem li_37 : Lifts Tryz.prog 37 encU16 := .u16 Tryz.underlying37
end Go.Am.YthckcbfijdambaaGreat
end
section
namespace Go.Am
set_option linter.unusedVariables false
theorem i64_small {x : Int} (h : -4000000000000000000 ≤ x ∧ x ≤ 4000000000000000000) : I64 x := by unfold I64; omega
section
variable {σ ε J A β : Type}
theorem Ok.ifp {p : Prop} [Decidable p] {x y : Option β} {Q : β → Prop} (h : p) (hx : Ok x Q) : Ok (if p then x else y) Q := by rw [if_pos h]; exact hx
theorem Ok.ifn {p : Prop} [Decidable p] {x y : Option β} {Q : β → Prop} (h : ¬ p) (hy : Ok y Q) : Ok (if p then x else y) Q := by rw [if_neg h]; exact hy
theorem Ok.eq {x : Option β} {a : β} {Q : β → Prop} (h : x = Option.some a) (hq : Q a) : Ok x Q := ⟨a, h, hq⟩
theorem Ok.andx' {x : Option J} {k : J → Option β} {a : J} {Q : β → Prop} (h : x = Option.some a) (hk : Ok (k a) Q) : Ok (Am.andx x k) Q := by subst h; exact hk
def CountQ (idx : σ → Int) (I : Nat → σ → Prop) (k : Nat) (Q : ε → Prop) : Stp σ ε → Prop
 | .ag s => idx s = k + 1 ∧ I (k + 1) s
 | .dn e => Q e
def FinQ (Q : ε → Prop) : Stp σ ε → Prop
 | .ag _ => False
 | .dn e => Q e
theorem Ok.count (idx : σ → Int) (n : Nat) (I : Nat → σ → Prop) {body : σ → Option (Stp σ ε)} {s0 : σ} {Q : ε → Prop} (h0 : idx s0 = 0) (hI : I 0 s0)
  (step : ∀ k s, k < n → idx s = k → I k s → Ok (body s) (CountQ idx I k Q)) (fin : ∀ s, idx s = n → I n s → Ok (body s) (FinQ Q)) : Ok (Am.iter body s0) Q := by
 refine Ok.iter (fun s => ∃ k : Nat, k ≤ n ∧ idx s = k ∧ I k s) (fun s => n - (idx s).toNat) ⟨0, Nat.zero_le _, h0, hI⟩ ?_;rintro s ⟨k, hk, hx, hi⟩
 by_cases hlt : k < n
 ·refine (step k s hlt hx hi).mono fun x hq => ?_
  cases x with
  | ag s' =>
   have h1 : idx s' = k + 1 := hq.1;exact ⟨⟨k + 1, by omega, by rw [h1]; rfl, hq.2⟩, by show n - (idx s').toNat < n - (idx s).toNat; rw [h1, hx]; omega⟩
  | dn e => exact hq
 ·have : k = n := by omega
  subst this;refine (fin s hx hi).mono fun x hq => ?_
  cases x with
  | ag s' => exact hq.elim
  | dn e => exact hq
end
theorem get_of {α : Type} {l : List α} {k : Nat} {i : Int} {a : α} (h : l[i.toNat]? = some a) (hi : i = k) : l[k]? = some a := by rw [hi] at h; simpa using h
end Go.Am
end
section
namespace Go.Am
def cntOf (t : List Int) : Int → Int := fun x => ((t.countP fun y => decide (y = x) : Nat) : Int)
theorem cntOf_snoc (t : List Int) (n : Int) : cntOf (t ++ [n]) = putI (cntOf t) n (cntOf t n + 1) := by
 funext x
 unfold cntOf putI;rw [List.countP_append]
 by_cases h : x = n
 ·subst h; simp
 ·have : ¬ n = x := fun e => h e.symm
  simp [h, this]
theorem cntOf_le (t : List Int) (x : Int) : 0 ≤ cntOf t x ∧ cntOf t x ≤ t.length := by
 unfold cntOf
 have := List.countP_le_length (p := fun y => decide (y = x)) (l := t);omega
theorem cntOf_pos (t : List Int) (x : Int) : 0 < cntOf t x ↔ x ∈ t := by
 unfold cntOf;rw [show (0 < ((t.countP fun y => decide (y = x) : Nat) : Int)) ↔ 0 < t.countP fun y => decide (y = x) by omega, List.countP_pos_iff];simp
theorem cntOf_zero (t : List Int) (x : Int) : cntOf t x = 0 ↔ x ∉ t := by
 have := cntOf_pos t x
 have := (cntOf_le t x).1
 constructor
 ·intro h hx; have := (cntOf_pos t x).2 hx; omega
 ·intro h; have : ¬ 0 < cntOf t x := fun k => h ((cntOf_pos t x).1 k); omega
theorem there_ok {s : Int} {g : List Gat} {its : List Item} {lv : List Leaf} {mt t : List Int} (ht : t.length ≤ 1000000) : P_c_there s g its lv mt t = some (cntOf t) := by
 refine Ok.get ?_;unfold P_c_there;refine Ok.andx (P := fun f => f = cntOf t) (Ok.count Prod.fst t.length (fun k s => s.2 = cntOf (t.take k)) rfl rfl ?_ ?_) fun _ h => .some h
 ·rintro k ⟨x, f⟩ hk hx hf;simp only at hx hf;subst hf;unfold P_c_there_L1;refine .ifp (by omega) (.el (by omega) fun a ha => ?_)
  have ha := get_of ha hx
  have := cntOf_le (t.take k) a
  have : (t.take k).length ≤ t.length := by rw [List.length_take]; omega
  refine .chk (i64_small (by omega)) (.chk (i64_small (by omega)) (.some ⟨by simp only; omega, ?_⟩))
  show _ = cntOf (t.take (k + 1));rw [take_snoc ha, cntOf_snoc]
 ·rintro ⟨x, f⟩ hx hf;simp only at hx hf;unfold P_c_there_L1;refine .ifn (by omega) (.some ?_)
  show _ = _;rw [hf, List.take_length]
def lostOf (n : Nat) (t : List Int) : List Int := ((List.range n).map fun i : Nat => (i : Int)).filter fun x => decide (x ∉ t)
theorem lostOf_succ (n : Nat) (t : List Int) : lostOf (n + 1) t = if (n : Int) ∉ t then lostOf n t ++ [(n : Int)] else lostOf n t := by
 unfold lostOf;rw [List.range_succ, List.map_append, List.filter_append]
 by_cases h : (n : Int) ∈ t <;> simp [h]
theorem lostOf_len (n : Nat) (t : List Int) : (lostOf n t).length ≤ n := by
 unfold lostOf;exact Nat.le_trans (List.length_filter_le _ _) (by simp)
theorem lost_ok {s : Int} {g : List Gat} {its : List Item} {lv : List Leaf} {mt t : List Int} (ht : t.length ≤ 1000000) (hl : lv.length ≤ 1000000) : P_c_lost s g its lv mt t = some (lostOf lv.length t) := by
 refine Ok.get ?_;unfold P_c_lost;refine .andx' (there_ok ht) ?_;refine Ok.andx (P := fun l => l = lostOf lv.length t) (Ok.count Prod.fst lv.length (fun k s => s.2 = lostOf k t) rfl rfl ?_ ?_) fun _ h => .some h
 ·rintro k ⟨x, l⟩ hk hx hl';simp only at hx hl';subst hl'
  have hlen := lostOf_len k t;unfold P_c_lost_L1;refine .ifp (by omega) (Ok.andx (P := fun l => l = lostOf (k + 1) t) ?_ ?_)
  ·refine .ite (fun hc => ?_) (fun hc => ?_)
   ·refine .chk (by simp; omega) (.some ?_)
    show _ = _;rw [lostOf_succ, if_pos (by rw [← hx]; exact (cntOf_zero t x).1 hc), hx]
   ·refine .some ?_
    show _ = _;rw [lostOf_succ, if_neg (by rw [← hx]; exact fun h => hc ((cntOf_zero t x).2 h))]
  ·rintro l' rfl;exact .chk (i64_small (by omega)) (.some ⟨by simp only; omega, rfl⟩)
 ·rintro ⟨x, l⟩ hx hl';simp only at hx hl';unfold P_c_lost_L1;exact .ifn (by omega) (.some hl')
def looseOf (mt t : List Int) : Nat → List Int
 | 0 => []
 | n + 1 => looseOf mt t n ++ (match mt[n]? with | some m => if (n : Int) ∈ t ∧ m ≥ 0 ∧ m ∉ t then [(n : Int)] else [] | none => [])
theorem looseOf_len (mt t : List Int) : ∀ n, (looseOf mt t n).length ≤ n := by
 intro n
 induction n with
 | zero => simp [looseOf]
 | succ n ih =>
  unfold looseOf;rw [List.length_append];split
  ·split <;> simp <;> omega
  ·simp; omega
theorem loose_ok {s : Int} {g : List Gat} {its : List Item} {lv : List Leaf} {mt t : List Int} (ht : t.length ≤ 1000000) (hl : mt.length ≤ 1000000) : P_c_loose s g its lv mt t = some (looseOf mt t mt.length) := by
 refine Ok.get ?_;unfold P_c_loose;refine .andx' (there_ok ht) ?_;refine Ok.andx (P := fun l => l = looseOf mt t mt.length) (Ok.count Prod.fst mt.length (fun k s => s.2 = looseOf mt t k) rfl rfl ?_ ?_) fun _ h => .some h
 ·rintro k ⟨x, l⟩ hk hx hl';simp only at hx hl';subst hl'
  have hlen := looseOf_len mt t k;unfold P_c_loose_L1;refine .ifp (by omega) (Ok.andx (P := fun l => l = looseOf mt t (k + 1)) ?_ ?_)
  ·refine .el (by omega) fun m hm0 => ?_
   have hm := get_of hm0 hx;subst hx;refine Ok.andx (P := fun b => b = true ↔ ((k : Int) ∈ t ∧ m ≥ 0 ∧ m ∉ t)) ?_ ?_
   ·refine .ite (fun hc => ?_) (fun hc => ?_)
    ·have h1 := (cntOf_pos t k).1 hc;refine .ite (fun hd => .some ?_) (fun hd => .some ?_)
     ·simp [h1, hd, cntOf_zero]
     ·simp [hd]
    ·have h1 : (k : Int) ∉ t := fun h => hc ((cntOf_pos t k).2 h)
     exact .some (by simp [h1])
   ·rintro b hb;refine .ite (fun hc => ?_) (fun hc => ?_)
    ·refine .chk (by simp; omega) (.some ?_)
     show _ = _;rw [looseOf, hm];simp only;rw [if_pos (hb.1 hc)]
    ·refine .some ?_
     show _ = _;rw [looseOf, hm];simp only;rw [if_neg (fun h => hc (hb.2 h)), List.append_nil]
  ·rintro l' rfl;exact .chk (i64_small (by omega)) (.some ⟨by simp only; omega, rfl⟩)
 ·rintro ⟨x, l⟩ hx hl';simp only at hx hl';unfold P_c_loose_L1;exact .ifn (by omega) (.some hl')
end Go.Am
end
section
namespace Go.Am
set_option linter.unusedVariables false
def idxTo (p : Nat → Int → Bool) (t : List Int) : Nat → List Int
 | 0 => []
 | k + 1 => idxTo p t k ++ (match t[k]? with | some n => if p k n = true then [(k : Int)] else [] | none => [])
theorem idxTo_succ {p : Nat → Int → Bool} {t : List Int} {k : Nat} {n : Int} (h : t[k]? = some n) : idxTo p t (k + 1) = if p k n = true then idxTo p t k ++ [(k : Int)] else idxTo p t k := by
 rw [idxTo, h];simp only;split <;> simp
theorem idxTo_len (p : Nat → Int → Bool) (t : List Int) : ∀ k, (idxTo p t k).length ≤ k := by
 intro k
 induction k with
 | zero => simp [idxTo]
 | succ k ih =>
  rw [idxTo, List.length_append];split
  ·split <;> simp <;> omega
  ·simp; omega
def isPlain (t : List Int) (k : Nat) (n : Int) : Bool := decide (0 ≤ n ∧ n ∉ t.take k)
def isStrange (k : Nat) (n : Int) : Bool := decide (n < 0)
def isTwice (t : List Int) (k : Nat) (n : Int) : Bool := decide (0 ≤ n ∧ n ∈ t.take k)
def strangeOf (t : List Int) : List Int := idxTo isStrange t t.length
def twiceOf (t : List Int) : List Int := idxTo (isTwice t) t t.length
def gathOf (lv : List Leaf) (x : Int) : Int := match lv[x.toNat]? with | some a => a.g | none => 0
def rnStep (g : Int → Int) (l : List S_copy_run) (i n : Int) : List S_copy_run :=
 match l[l.length - 1]? with
 | some r => if r.last < n ∧ g r.last = g n then l.set (l.length - 1) ⟨r.item, r.first, n⟩ else l ++ [⟨i, n, n⟩]
 | none => l ++ [⟨i, n, n⟩]
def runsTo (g : Int → Int) (t : List Int) : Nat → List S_copy_run
 | 0 => []
 | k + 1 => match t[k]? with | some n => if isPlain t k n = true then rnStep g (runsTo g t k) k n else runsTo g t k | none => runsTo g t k
def runsOf (g : Int → Int) (t : List Int) : List S_copy_run := runsTo g t t.length
def RunOk (n : Nat) (r : S_copy_run) : Prop := 0 ≤ r.first ∧ r.first < n ∧ 0 ≤ r.last ∧ r.last < n
theorem rnStep_ok {g : Int → Int} {l : List S_copy_run} {i n : Int} {N : Nat} (h : ∀ r ∈ l, RunOk N r) (hn : 0 ≤ n ∧ n < N) : ∀ r ∈ rnStep g l i n, RunOk N r := by
 unfold rnStep
 have happ : ∀ r ∈ l ++ [(⟨i, n, n⟩ : S_copy_run)], RunOk N r := fun r hr => by
  rcases List.mem_append.1 hr with hr | hr
  ·exact h r hr
  ·rw [List.mem_singleton] at hr;subst hr;exact ⟨hn.1, hn.2, hn.1, hn.2⟩
 split
 ·rename_i r hr
  split
  ·intro x hx
   rcases List.mem_or_eq_of_mem_set hx with hx | rfl
   ·exact h x hx
   ·have := h r (List.mem_of_getElem? hr);exact ⟨this.1, this.2.1, hn.1, hn.2⟩
  ·exact happ
 ·exact happ
theorem rnStep_len {g : Int → Int} {l : List S_copy_run} {i n : Int} : (rnStep g l i n).length ≤ l.length + 1 := by
 unfold rnStep;split
 ·split <;> simp
 ·simp
theorem runsTo_ok {g : Int → Int} {t : List Int} {N : Nat} (ht : ∀ x ∈ t, x < N) : ∀ k, (∀ r ∈ runsTo g t k, RunOk N r) ∧ (runsTo g t k).length ≤ k := by
 intro k
 induction k with
 | zero => simp [runsTo]
 | succ k ih =>
  rw [runsTo];split
  ·rename_i n hn
   split
   ·rename_i hp
    have h0 : 0 ≤ n := (of_decide_eq_true hp).1;refine ⟨rnStep_ok ih.1 ⟨h0, ht _ (List.mem_of_getElem? hn)⟩, ?_⟩
    have := rnStep_len (g := g) (l := runsTo g t k) (i := k) (n := n);omega
   ·exact ⟨ih.1, by omega⟩
  ·exact ⟨ih.1, by omega⟩
theorem runsTo_succ {g : Int → Int} {t : List Int} {k : Nat} {n : Int} (h : t[k]? = some n) : runsTo g t (k + 1) = if isPlain t k n = true then rnStep g (runsTo g t k) k n else runsTo g t k := by rw [runsTo, h]
def follow (last : Int) (ps : List (S_copy_run × Int)) (a : Int) : Int := ps.foldl (fun a p => if p.1.first > last then max a p.2 else a) a
def chains : List S_copy_run → List Int
 | [] => []
 | r :: l => (follow r.last (l.zip (chains l)) 0 + 1) :: chains l
theorem chains_len : ∀ l, (chains l).length = l.length := by
 intro l
 induction l with
 | nil => rfl
 | cons r l ih => simp [chains, ih]
theorem follow_bounds {last : Int} {M : Int} : ∀ (ps : List (S_copy_run × Int)) (a : Int), (∀ p ∈ ps, p.2 ≤ M) → a ≤ M → a ≤ follow last ps a ∧ follow last ps a ≤ M := by
 intro ps
 induction ps with
 | nil => intro a _ h; exact ⟨Int.le_refl _, h⟩
 | cons p ps ih =>
  intro a h ha
  have hp := h p List.mem_cons_self
  have ht : ∀ p ∈ ps, p.2 ≤ M := fun q hq => h q (List.mem_cons_of_mem _ hq)
  show a ≤ follow last ps (if p.1.first > last then max a p.2 else a) ∧ _;split
  ·have := ih (max a p.2) ht (by omega);exact ⟨by omega, by rw [follow, List.foldl_cons]; rename_i hc; rw [if_pos hc]; exact this.2⟩
  ·have := ih a ht ha;exact ⟨this.1, by rw [follow, List.foldl_cons]; rename_i hc; rw [if_neg hc]; exact this.2⟩
theorem chains_bounds : ∀ (l : List S_copy_run), ∀ m ∈ chains l, 1 ≤ m ∧ m ≤ l.length := by
 intro l
 induction l with
 | nil => intro m h; cases h
 | cons r l ih =>
  intro m h;rw [chains] at h
  rcases List.mem_cons.1 h with rfl | h
  ·have := follow_bounds (last := r.last) (M := l.length) (l.zip (chains l)) 0 (fun p hp => (ih p.2 (List.of_mem_zip hp).2).2) (by omega);rw [List.length_cons];omega
  ·have := ih m h;rw [List.length_cons];omega
def top : List Int → Int
 | [] => 0
 | m :: ms => max (top ms) m
theorem top_bounds {M : Int} (hM : 0 ≤ M) : ∀ l : List Int, (∀ m ∈ l, m ≤ M) → 0 ≤ top l ∧ top l ≤ M := by
 intro l
 induction l with
 | nil => intro _; exact ⟨Int.le_refl _, hM⟩
 | cons a l ih =>
  intro h
  have := ih fun m hm => h m (List.mem_cons_of_mem _ hm)
  have := h a List.mem_cons_self;rw [top];omega
def movedFrom : List (S_copy_run × Int) → Int → Int → List Int
 | [], _, _ => []
 | p :: ps, b, last => if p.2 = b ∧ p.1.first > last then movedFrom ps (b - 1) p.1.last else p.1.item :: movedFrom ps b last
def movedOf (l : List S_copy_run) : List Int := movedFrom (l.zip (chains l)) (top (chains l)) (-1)
theorem movedFrom_len : ∀ (ps : List (S_copy_run × Int)) (b last : Int), (movedFrom ps b last).length ≤ ps.length := by
 intro ps
 induction ps with
 | nil => intro b last; exact Nat.le_refl _
 | cons p ps ih =>
  intro b last;rw [movedFrom];split
  ·have := ih (b - 1) p.1.last;rw [List.length_cons]; omega
  ·have := ih b last;rw [List.length_cons, List.length_cons]; omega
theorem movedOf_len (l : List S_copy_run) : (movedOf l).length ≤ l.length := by
 have := movedFrom_len (l.zip (chains l)) (top (chains l)) (-1);unfold movedOf;rw [List.length_zip, chains_len] at this;omega
def row (l : List S_copy_run) (i : Nat) : List Int := List.replicate i 0 ++ (chains (l.drop i) ++ List.replicate (120 - l.length) 0)
theorem row_len {l : List S_copy_run} {i : Nat} (h : l.length ≤ 120) (hi : i ≤ l.length) : (row l i).length = 120 := by
 unfold row;rw [List.length_append, List.length_append, List.length_replicate, List.length_replicate, chains_len, List.length_drop];omega
theorem row_get {l : List S_copy_run} {i k : Nat} (hk : i ≤ k) (hl : k < l.length) : (row l i)[k]? = (chains (l.drop i))[k - i]? := by
 unfold row;rw [List.getElem?_append_right (by rw [List.length_replicate]; exact hk), List.length_replicate, List.getElem?_append_left (by rw [chains_len, List.length_drop]; omega)]
theorem inner_ok {l : List S_copy_run} {i : Nat} {r : S_copy_run} (hl : l.length ≤ 120) (hr : l[i]? = some r) :
  iter (P_c_moved_L2 l i) (((i : Int) + 1), row l (i + 1)) = some ((row l (i + 1)).set i (follow r.last ((l.drop (i + 1)).zip (chains (l.drop (i + 1)))) 0)) := by
 have hi : i < l.length := (List.getElem?_eq_some_iff.1 hr).1;refine Ok.get ?_
 have hz : (row l (i + 1))[i]? = some 0 := by
  unfold row;rw [List.getElem?_append_left (by rw [List.length_replicate]; omega)];simp
 have hset0 : (row l (i + 1)).set i 0 = row l (i + 1) := by
  obtain ⟨h1, h2⟩ := List.getElem?_eq_some_iff.1 hz;rw [← h2, List.set_getElem_self]
 have hrl := row_len hl (show i + 1 ≤ l.length by omega);refine Ok.count (fun s => s.1 - ((i : Int) + 1)) (l.length - (i + 1)) (fun k s => s.2 = (row l (i + 1)).set i (follow r.last (((l.drop (i + 1)).zip (chains (l.drop (i + 1)))).take k) 0)) (by simp only; omega) (by simp only [List.take_zero]; exact hset0.symm) ?_ ?_
 ·rintro k ⟨kk, many⟩ hk hx hm;simp only at hx hm
  have hkk : kk = ((i + 1 + k : Nat) : Int) := by omega
  subst hkk;subst hm
  have hlen : ((row l (i + 1)).set i (follow r.last (((l.drop (i + 1)).zip (chains (l.drop (i + 1)))).take k) 0)).length = 120 := by rw [List.length_set, hrl]
  have hd : (l.drop (i + 1))[k]? = l[i + 1 + k]? := by rw [List.getElem?_drop]
  have hck : k < (chains (l.drop (i + 1))).length := by rw [chains_len, List.length_drop]; omega
  have hdk : k < (l.drop (i + 1)).length := by rw [List.length_drop]; omega
  have hzip : ((l.drop (i + 1)).zip (chains (l.drop (i + 1))))[k]? = some ((l.drop (i + 1))[k], (chains (l.drop (i + 1)))[k]) := by
   rw [List.getElem?_zip_eq_some];exact ⟨List.getElem?_eq_getElem hdk, List.getElem?_eq_getElem hck⟩
  have hf : follow r.last (((l.drop (i + 1)).zip (chains (l.drop (i + 1)))).take (k + 1)) 0 = (if (l.drop (i + 1))[k].first > r.last then max (follow r.last (((l.drop (i + 1)).zip (chains (l.drop (i + 1)))).take k) 0) (chains (l.drop (i + 1)))[k] else follow r.last (((l.drop (i + 1)).zip (chains (l.drop (i + 1)))).take k) 0) := by
   rw [take_snoc hzip, follow, List.foldl_append];rfl
  have hri : (row l (i + 1))[i + 1 + k]? = some (chains (l.drop (i + 1)))[k] := by
   rw [row_get (by omega) (by omega), show i + 1 + k - (i + 1) = k by omega, List.getElem?_eq_getElem hck]
  have hA : l[i + 1 + k]? = some (l.drop (i + 1))[k] := by rw [← hd, List.getElem?_eq_getElem hdk]
  generalize hF : follow r.last (((l.drop (i + 1)).zip (chains (l.drop (i + 1)))).take k) 0 = F at *;unfold P_c_moved_L2;refine .ifp (by omega) (Ok.andx (P := fun m => m = (row l (i + 1)).set i (follow r.last (((l.drop (i + 1)).zip (chains (l.drop (i + 1)))).take (k + 1)) 0)) ?_ ?_)
  ·refine .el (by omega) fun a ha => ?_
   have ha := get_of ha rfl;rw [hA] at ha;cases ha;refine .el (by omega) fun b hb => ?_
   have hb := get_of hb rfl;rw [hr] at hb;cases hb;refine .ite (fun hc => ?_) (fun hc => ?_)
   ·refine .chk (by rw [hlen]; rfl) (.el (by rw [hlen]; omega) fun x hx1 => ?_)
    have hx1 := get_of hx1 rfl;rw [List.getElem?_set_self (by rw [hrl]; omega)] at hx1;cases hx1;refine .chk (by rw [hlen]; rfl) (.el (by rw [hlen]; omega) fun y hy1 => ?_)
    have hy1 := get_of hy1 rfl;rw [List.getElem?_set_ne (by omega), hri] at hy1;cases hy1;refine .chk (by rw [hlen]; rfl) (.el (by rw [hlen]; omega) fun w hw1 => .some ?_)
    show _ = _;rw [hf, if_pos hc, Int.toNat_natCast, List.set_set]
   ·refine .some ?_
    show _ = _;rw [hf, if_neg hc]
  ·rintro m rfl;exact .chk (i64_small (by omega)) (.some ⟨by simp only; omega, rfl⟩)
 ·rintro ⟨kk, many⟩ hx hm;simp only at hx hm;unfold P_c_moved_L2;refine .ifn (by omega) (.some ?_)
  show many = _;rw [hm, List.take_of_length_le (by rw [List.length_zip, chains_len, List.length_drop]; omega)]
theorem row_step {l : List S_copy_run} {i : Nat} {r : S_copy_run} (hr : l[i]? = some r) : (row l (i + 1)).set i (follow r.last ((l.drop (i + 1)).zip (chains (l.drop (i + 1)))) 0 + 1) = row l i := by
 have e : List.replicate (i + 1) (0 : Int) = List.replicate i 0 ++ [0] := List.replicate_succ';unfold row;rw [e, List.append_assoc, List.set_append_right _ _ (by rw [List.length_replicate]; omega), List.length_replicate, Nat.sub_self, drop_cons hr, chains];rfl
theorem moved_ok {l : List S_copy_run} {N : Nat} (hl : l.length ≤ 120) (hr : ∀ r ∈ l, RunOk N r) : P_c_moved l = some (movedOf l) := by
 refine Ok.get ?_;unfold P_c_moved
 have hcb := chains_bounds;refine Ok.andx (P := fun s => s = (top (chains l), row l 0)) (.chk (i64_small (by omega)) ?_) ?_
 ·refine Ok.count (fun s => ((l.length : Int) - 1) - s.2.1) l.length (fun k s => s.1 = top (chains (l.drop (l.length - k))) ∧ s.2.2 = row l (l.length - k)) (by simp only; omega) ⟨by simp [chains, top], ?_⟩ ?_ ?_
  ·simp only [Nat.sub_zero, row, List.drop_length, chains, List.nil_append];rw [List.replicate_append_replicate, show l.length + (120 - l.length) = 120 by omega]
  ·rintro k ⟨best, i, many⟩ hk hx ⟨hb, hm⟩;simp only at hx hb hm;obtain ⟨j, hj⟩ : ∃ j : Nat, j = l.length - 1 - k := ⟨_, rfl⟩
   have hi : i = (j : Int) := by omega
   subst hi
   have hjl : j < l.length := by omega
   obtain ⟨r, hrj⟩ : ∃ r, l[j]? = some r := ⟨_, List.getElem?_eq_getElem hjl⟩
   have e1 : l.length - k = j + 1 := by omega
   have e2 : l.length - (k + 1) = j := by omega
   rw [e1] at hb hm;subst hb hm
   have hset : ∀ x, (((row l (j + 1)).set j x).length : Int) * 1 = 120 := fun x => by rw [List.length_set, row_len hl (by omega)]; rfl
   have hch : chains (l.drop j) = (follow r.last ((l.drop (j + 1)).zip (chains (l.drop (j + 1)))) 0 + 1) :: chains (l.drop (j + 1)) := by rw [drop_cons hrj, chains]
   have hbd := hcb (l.drop j) (follow r.last ((l.drop (j + 1)).zip (chains (l.drop (j + 1)))) 0 + 1) (by rw [hch]; exact List.mem_cons_self)
   have hld : (l.drop j).length ≤ 120 := by rw [List.length_drop]; omega
   generalize hF : follow r.last ((l.drop (j + 1)).zip (chains (l.drop (j + 1)))) 0 = F at *;unfold P_c_moved_L1;refine .ifp (by omega) (Ok.andx (P := fun s => s = (top (chains (l.drop j)), row l j)) ?_ ?_)
   ·refine Ok.andx' (a := (row l (j + 1)).set j F) ?_ ?_
    ·have := inner_ok hl hrj;rw [hF] at this;rw [chk_pos (i64_small (by omega))];exact this
    ·refine .chk (hset _) (.el (by rw [List.length_set, row_len hl (by omega)]; omega) fun a ha => ?_)
     have ha := get_of ha rfl;rw [List.getElem?_set_self (by rw [row_len hl (by omega)]; omega)] at ha;cases ha;refine .chk (i64_small (by omega)) (.chk (hset _) (.el (by rw [List.length_set, row_len hl (by omega)]; omega) fun b hb => ?_));rw [Int.toNat_natCast, List.set_set];refine .chk (hset _) (.el (by rw [List.length_set, row_len hl (by omega)]; omega) fun c hc => .some ?_)
     have hc := get_of hc rfl;rw [List.getElem?_set_self (by rw [row_len hl (by omega)]; omega)] at hc;cases hc
     show _ = _
     have := row_step hrj;rw [hF] at this;rw [hch, top, this]
   ·rintro s rfl;refine .chk (i64_small (by omega)) (.some ⟨by simp only; omega, ?_, ?_⟩)
    ·simp only [e2]
    ·simp only [e2]
  ·rintro ⟨best, i, many⟩ hx ⟨hb, hm⟩;simp only at hx hb hm;unfold P_c_moved_L1;refine .ifn (by omega) (.some ?_)
   show _ = _;rw [hb, hm, Nat.sub_self, List.drop_zero]
 ·rintro s rfl
  have hrow : ∀ k (hk : k < l.length), (row l 0)[k]? = some ((chains l)[k]'(by rw [chains_len]; exact hk)) := fun k hk => by
   rw [row_get (Nat.zero_le _) hk, List.drop_zero, Nat.sub_zero, List.getElem?_eq_getElem (by rw [chains_len]; exact hk)]
  have hl120 := row_len hl (Nat.zero_le _)
  have htop := top_bounds (M := 120) (by omega) (chains l) fun m hm => by have := hcb l m hm; omega
  refine Ok.andx (P := fun s : Int × Int × Int × List Int => s.2.2.2 = movedOf l) (Ok.count (fun s : Int × Int × List Int × Int × Int × Int => s.2.1) l.length (fun k s => movedOf l = s.2.2.1 ++ movedFrom ((l.zip (chains l)).drop k) s.1 s.2.2.2.2.2 ∧ s.2.2.1.length ≤ k ∧ -200 - (k : Int) ≤ s.1 ∧ s.1 ≤ 120 ∧ (s.2.2.2 = (-1, -1, -1) ∨ 0 ≤ s.2.2.2.2.1 ∧ 0 ≤ s.2.2.2.2.2)) rfl ⟨by simp only [List.nil_append, List.drop_zero]; rfl, Nat.le_refl _, by simp only; omega, by simp only; omega, .inl rfl⟩ ?_ ?_) ?_
  ·rintro k ⟨best, x, items, li, lf, ll⟩ hk hx ⟨h1, h2, h3, h4, h5⟩;simp only at hx h1 h2 h3 h4 h5;subst hx
   have hck : k < (chains l).length := by rw [chains_len]; exact hk
   have hzip : (l.zip (chains l))[k]? = some (l[k], (chains l)[k]) := by
    rw [List.getElem?_zip_eq_some];exact ⟨List.getElem?_eq_getElem hk, List.getElem?_eq_getElem hck⟩
   have hrk := hr l[k] (List.getElem_mem hk);rw [drop_cons hzip, movedFrom] at h1;simp only at h1;unfold P_c_moved_L3;refine .ifp (by omega) (Ok.andx (P := fun s : Int × List Int × Int × Int × Int => movedOf l = s.2.1 ++ movedFrom ((l.zip (chains l)).drop (k + 1)) s.1 s.2.2.2.2 ∧ s.2.1.length ≤ k + 1 ∧ -200 - ((k : Int) + 1) ≤ s.1 ∧ s.1 ≤ 120 ∧ (s.2.2 = (-1, -1, -1) ∨ 0 ≤ s.2.2.2.1 ∧ 0 ≤ s.2.2.2.2)) ?_ ?_)
   ·refine .el (by omega) fun a ha => ?_
    have ha := get_of ha rfl;rw [List.getElem?_eq_getElem hk] at ha;cases ha;refine Ok.andx (P := fun b : Bool => b = true ↔ ((chains l)[k] = best ∧ l[k].first > ll)) ?_ ?_
    ·refine .chk (by rw [hl120]; rfl) (.el (by rw [hl120]; omega) fun m hm => ?_)
     have hm := get_of hm rfl;rw [hrow k hk] at hm;cases hm;refine .ite (fun hc => ?_) (fun hc => ?_)
     ·refine .ite (fun hd => ?_) (fun hd => ?_)
      ·exact .some (by simp only [true_iff]; exact ⟨hc, by rw [hd.2.2]; have := hrk.1; omega⟩)
      ·exact .some (by rw [decide_eq_true_iff]; exact ⟨fun h => ⟨hc, h⟩, fun h => h.2⟩)
     ·exact .some (by simp only [Bool.false_eq_true, false_iff]; exact fun h => hc h.1)
    ·rintro b hb;refine .ite (fun hc => ?_) (fun hc => ?_)
     ·rw [if_pos (hb.1 hc)] at h1;exact .chk (i64_small (by omega)) (.some ⟨h1, by simp only; omega, by simp only; omega, by simp only; omega, .inr ⟨hrk.1, hrk.2.2.1⟩⟩)
     ·rw [if_neg (fun h => hc (hb.2 h))] at h1;refine .chk (by simp; omega) (.some ⟨?_, by simp; omega, by simp only; omega, by simp only; omega, h5⟩);simp only;rw [h1, List.append_assoc];rfl
   ·rintro ⟨b', it', li', lf', ll'⟩ ⟨q1, q2, q3, q4, q5⟩;exact .chk (i64_small (by omega)) (.some ⟨rfl, q1, q2, by simp only at q3 ⊢; omega, q4, q5⟩)
  ·rintro ⟨best, x, items, li, lf, ll⟩ hx ⟨h1, h2, h3, h4, h5⟩;simp only at hx h1;unfold P_c_moved_L3;refine .ifn (by omega) (.some ?_)
   show items = _;rw [h1, List.drop_eq_nil_of_le (by rw [List.length_zip, chains_len]; omega), movedFrom, List.append_nil]
  ·rintro ⟨a, b, c, d⟩ h;exact .some h
end Go.Am
end
section
namespace Go.Am
set_option linter.unusedVariables false
def mateF (mt : List Int) (x : Int) : Int := match mt[x.toNat]? with | some m => m | none => -1
def isPiece (mt gone : List Int) (x : Int) : Bool := decide (mateF mt x < 0 ∨ mateF mt x > x ∨ mateF mt x ∉ gone)
def piecesOf (mt gone : List Int) : Int := (gone.countP (isPiece mt gone) : Nat)
theorem piecesOf_le (mt gone : List Int) : 0 ≤ piecesOf mt gone ∧ piecesOf mt gone ≤ gone.length := by
 unfold piecesOf
 have := List.countP_le_length (p := isPiece mt gone) (l := gone);omega
theorem mem_lostOf {n : Nat} {t : List Int} {x : Int} : x ∈ lostOf n t ↔ 0 ≤ x ∧ x < n ∧ x ∉ t := by
 unfold lostOf;simp only [List.mem_filter, List.mem_map, List.mem_range, decide_eq_true_eq]
 constructor
 ·rintro ⟨⟨i, hi, rfl⟩, h⟩; exact ⟨by omega, by omega, h⟩
 ·rintro ⟨h0, h1, h2⟩; exact ⟨⟨x.toNat, by omega, by omega⟩, h2⟩
theorem lostOf_sorted (n : Nat) (t : List Int) : (lostOf n t).Pairwise (· < ·) := by
 induction n with
 | zero => exact .nil
 | succ n ih =>
  rw [lostOf_succ];split
  ·rw [List.pairwise_append];refine ⟨ih, List.pairwise_singleton _ _, fun a ha b hb => ?_⟩;rw [List.mem_singleton] at hb;subst hb;exact (mem_lostOf.1 ha).2.1
  ·exact ih
theorem sorted_take {l : List Int} (hs : l.Pairwise (· < ·)) {k : Nat} {a x : Int} (ha : l[k]? = some a) : x ∈ l.take (k + 1) ↔ x ∈ l ∧ x ≤ a := by
 obtain ⟨hk, rfl⟩ := List.getElem?_eq_some_iff.1 ha;rw [List.pairwise_iff_getElem] at hs
 constructor
 ·intro h;refine ⟨List.mem_of_mem_take h, ?_⟩;obtain ⟨j, hj, rfl⟩ := List.mem_iff_getElem.1 h;rw [List.getElem_take];rw [List.length_take] at hj
  by_cases e : j = k
  ·subst e; exact Int.le_refl _
  ·exact Int.le_of_lt (hs j k (by omega) hk (by omega))
 ·rintro ⟨h, hle⟩;obtain ⟨j, hj, rfl⟩ := List.mem_iff_getElem.1 h
  have hjk : j ≤ k := by
   by_cases e : j ≤ k
   ·exact e
   ·have := hs k j hk hj (by omega); omega
  exact List.mem_iff_getElem.2 ⟨j, by rw [List.length_take]; omega, by rw [List.getElem_take]⟩
theorem pieces_ok {mt gone : List Int} (hs : gone.Pairwise (· < ·)) (hr : ∀ x ∈ gone, 0 ≤ x ∧ x < mt.length) (hl : gone.length ≤ 1000000) :
  ∃ m, iter (P_c_faults_L1 mt gone) (0, (fun _ => 0), 0) = some (m, piecesOf mt gone) := by
 suffices h : Ok (iter (P_c_faults_L1 mt gone) (0, (fun _ => 0), 0)) (fun s => s.2 = piecesOf mt gone) by
  obtain ⟨⟨m, p⟩, h1, h2⟩ := h;exact ⟨m, by rw [h1, ← h2]⟩
 refine Ok.count (fun s => s.1) gone.length (fun k (s : Int × (Int → Int) × Int) => s.2.1 = cntOf (gone.take k) ∧ s.2.2 = (((gone.take k).countP (isPiece mt gone) : Nat) : Int)) rfl ⟨rfl, rfl⟩ ?_ ?_
 ·rintro k ⟨x, m, fp⟩ hk hx ⟨hm, hp⟩;simp only at hx hm hp;subst hx hm hp;unfold P_c_faults_L1
  have hcl := List.countP_le_length (p := isPiece mt gone) (l := gone.take k)
  have htl : (gone.take k).length ≤ 1000000 := by rw [List.length_take]; omega
  refine .ifp (by omega) (Ok.andx (P := fun s : (Int → Int) × Int => s.1 = cntOf (gone.take (k + 1)) ∧ s.2 = (((gone.take (k + 1)).countP (isPiece mt gone) : Nat) : Int)) ?_ ?_)
  ·refine .el (by omega) fun a ha => ?_
   have ha := get_of ha rfl
   have har := hr a (List.mem_of_getElem? ha);refine .el har fun b hb => ?_
   have hmf : mateF mt a = b := by unfold mateF; rw [hb]
   have hc := cntOf_le (gone.take k) a
   have hsn : putI (cntOf (gone.take k)) a (cntOf (gone.take k) a + 1) = cntOf (gone.take (k + 1)) := by rw [take_snoc ha, cntOf_snoc]
   have hcp : (gone.take (k + 1)).countP (isPiece mt gone) = (gone.take k).countP (isPiece mt gone) + (if isPiece mt gone a = true then 1 else 0) := by
    rw [take_snoc ha, List.countP_append, List.countP_singleton]
   refine .chk (i64_small (by omega)) (Ok.andx (P := fun c : Bool => c = true ↔ isPiece mt gone a = true) ?_ ?_)
   ·rw [hsn];unfold isPiece;rw [hmf, decide_eq_true_iff];refine .ite (fun h => .some ?_) (fun h => .some ?_)
    ·simp only [true_iff]; exact .inl h
    ·rw [decide_eq_true_iff, cntOf_zero, sorted_take hs ha]
     constructor
     ·intro h2
      by_cases hb2 : b ∈ gone
      ·exact .inr (.inl (by have : ¬ b ≤ a := fun h3 => h2 ⟨hb2, h3⟩; omega))
      ·exact .inr (.inr hb2)
     ·rintro (h2 | h2 | h2) ⟨h3, h4⟩
      ·exact h h2
      ·omega
      ·exact h2 h3
   ·rintro c hcc;rw [hsn];refine .ite (fun h => ?_) (fun h => ?_)
    ·refine .chk (i64_small (by omega)) (.some ⟨rfl, ?_⟩);simp only;rw [hcp, if_pos (hcc.1 h)];rfl
    ·refine .some ⟨rfl, ?_⟩;simp only;rw [hcp, if_neg (fun e => h (hcc.2 e))];rfl
  ·rintro ⟨m', p'⟩ ⟨h1, h2⟩;exact .chk (i64_small (by omega)) (.some ⟨rfl, h1, h2⟩)
 ·rintro ⟨x, m, fp⟩ hx ⟨hm, hp⟩;simp only at hx hm hp;unfold P_c_faults_L1;refine .ifn (by omega) (.some ?_)
  show fp = _;rw [hp, List.take_length]; rfl
def TruthIn (n : Nat) (t : List Int) : Prop := ∀ x ∈ t, x < n
theorem runs_loop {lv : List Leaf} {t : List Int} (ht : t.length ≤ 120) (hin : TruthIn lv.length t) :
  ∃ m, iter (P_c_faults_L2 lv t) (0, [], [], [], (fun _ => 0)) = some (m, runsOf (gathOf lv) t, strangeOf t, twiceOf t) := by
 suffices h : Ok (iter (P_c_faults_L2 lv t) (0, [], [], [], (fun _ => 0))) (fun s => s.2 = (runsOf (gathOf lv) t, strangeOf t, twiceOf t)) by
  obtain ⟨⟨m, p⟩, h1, h2⟩ := h;exact ⟨m, by rw [h1, ← h2]⟩
 refine Ok.count (fun s => s.1) t.length (fun k s => s.2.1 = runsTo (gathOf lv) t k ∧ s.2.2.1 = idxTo isStrange t k ∧ s.2.2.2.1 = idxTo (isTwice t) t k ∧ ∀ a, 0 ≤ a → s.2.2.2.2 a = cntOf (t.take k) a) rfl ⟨rfl, rfl, rfl, fun a _ => by simp [cntOf]⟩ ?_ ?_
 ·rintro k ⟨x, l, st, tw, m⟩ hk hx ⟨hl, hst, htw, hm⟩;simp only at hx hl hst htw hm;subst hx hl hst htw
  have hro := runsTo_ok (g := gathOf lv) hin k
  have hs1 := idxTo_len isStrange t k
  have hs2 := idxTo_len (isTwice t) t k;unfold P_c_faults_L2;refine .ifp (by omega) (Ok.andx (P := fun s : List S_copy_run × List Int × List Int × (Int → Int) => s.1 = runsTo (gathOf lv) t (k + 1) ∧ s.2.1 = idxTo isStrange t (k + 1) ∧ s.2.2.1 = idxTo (isTwice t) t (k + 1) ∧ ∀ a, 0 ≤ a → s.2.2.2 a = cntOf (t.take (k + 1)) a) ?_ ?_)
  ·refine .el (by omega) fun n hn => ?_
   have hn := get_of hn rfl
   have hnl := hin n (List.mem_of_getElem? hn);rw [runsTo_succ hn, idxTo_succ hn, idxTo_succ hn];refine .ite (fun h0 => ?_) (fun h0 => ?_)
   ·have e1 : isPlain t k n = false := decide_eq_false (by omega)
    have e2 : isStrange k n = true := decide_eq_true h0
    have e3 : isTwice t k n = false := decide_eq_false (by omega);rw [e1, e2, e3];refine .chk (by simp; omega) (.some ⟨rfl, rfl, rfl, fun a ha => ?_⟩);simp only;rw [hm a ha, take_snoc hn, cntOf_snoc, putI_ne (by omega)]
   ·have hc := cntOf_le (t.take k) n
    have htl : (t.take k).length ≤ 120 := by rw [List.length_take]; omega
    have hmn := hm n (by omega)
    have e2 : isStrange k n = false := decide_eq_false h0;rw [e2]
    have hm' : ∀ a, 0 ≤ a → putI m n (m n + 1) a = cntOf (t.take (k + 1)) a := fun a ha => by
     rw [take_snoc hn, cntOf_snoc]
     by_cases e : a = n
     ·subst e; rw [putI_same, putI_same, hmn]
     ·rw [putI_ne e, putI_ne e, hm a ha]
    refine .chk (i64_small (by omega)) (.ite (fun h1 => ?_) (fun h1 => ?_))
    ·rw [putI_same, hmn] at h1
     have hin' := (cntOf_pos (t.take k) n).1 (by omega)
     have e1 : isPlain t k n = false := decide_eq_false (fun h => h.2 hin')
     have e3 : isTwice t k n = true := decide_eq_true ⟨by omega, hin'⟩;rw [e1, e3];exact .chk (by simp; omega) (.some ⟨rfl, rfl, rfl, hm'⟩)
    ·rw [putI_same, hmn] at h1
     have hin' : n ∉ t.take k := fun h => h1 (by have := (cntOf_pos (t.take k) n).2 h; omega)
     have e1 : isPlain t k n = true := decide_eq_true ⟨by omega, hin'⟩
     have e3 : isTwice t k n = false := decide_eq_false (fun h => hin' h.2);rw [e1, e3];generalize hL : runsTo (gathOf lv) t k = L at *;refine Ok.seqx ?_;refine .chk (i64_small (by omega)) (Ok.andx (P := fun b : Bool => (b = true ∧ ∃ r, L[L.length - 1]? = some r ∧ r.last < n ∧ gathOf lv r.last = gathOf lv n) ∨ (b = false ∧ rnStep (gathOf lv) L k n = L ++ [⟨k, n, n⟩])) ?_ ?_)
     ·refine .ite (fun h2 => ?_) (fun h2 => ?_)
      ·refine .el (by omega) fun r hr => ?_
       have hr : L[L.length - 1]? = some r := get_of hr (by omega)
       have hrk := hro.1 r (List.mem_of_getElem? hr);refine .ite (fun h3 => ?_) (fun h3 => ?_)
       ·refine .el (by omega) fun r' hr' => ?_
        have hr' : L[L.length - 1]? = some r' := get_of hr' (by omega);rw [hr] at hr';cases hr';refine .el ⟨hrk.2.2.1, hrk.2.2.2⟩ fun a ha => .el ⟨by omega, hnl⟩ fun b hb => .some ?_
        have ga : gathOf lv r.last = a.g := by unfold gathOf; rw [ha]
        have gb : gathOf lv n = b.g := by unfold gathOf; rw [hb]
        by_cases e : a.g = b.g
        ·exact .inl ⟨decide_eq_true e, r, hr, h3, by rw [ga, gb, e]⟩
        ·refine .inr ⟨decide_eq_false e, ?_⟩;unfold rnStep;rw [hr];simp only;rw [if_neg (fun h => e (by rw [← ga, ← gb]; exact h.2))]
       ·refine .some (.inr ⟨rfl, ?_⟩);unfold rnStep;rw [hr];simp only;rw [if_neg (fun h => h3 h.1)]
      ·refine .some (.inr ⟨rfl, ?_⟩)
       have : L = [] := List.eq_nil_of_length_eq_zero (by omega);subst this;rfl
     ·rintro b (⟨rfl, r, hr, h3, h4⟩ | ⟨rfl, h3⟩)
      ·have hlt := (List.getElem?_eq_some_iff.1 hr).1;refine .ifp rfl (.el (by omega) fun r' hr' => ?_)
       have hr' : L[L.length - 1]? = some r' := get_of hr' (by omega);rw [hr] at hr';cases hr';refine .some ⟨?_, rfl, rfl, hm'⟩;simp only;unfold rnStep;rw [hr];simp only;rw [if_pos (c := r.last < n ∧ gathOf lv r.last = gathOf lv n) ⟨h3, h4⟩, show ((L.length : Int) - 1).toNat = L.length - 1 by omega];simp only [if_true]
      ·refine .ifn (by simp) (.some ?_)
       show Ok _ _;refine .chk (by simp; omega) (.some ⟨?_, rfl, rfl, hm'⟩);simp only;rw [if_pos trivial, h3]
  ·rintro ⟨l', st', tw', m'⟩ ⟨q1, q2, q3, q4⟩;exact .chk (i64_small (by omega)) (.some ⟨rfl, q1, q2, q3, q4⟩)
 ·rintro ⟨x, l, st, tw, m⟩ hx ⟨hl, hst, htw, hm⟩;simp only at hx hl hst htw;unfold P_c_faults_L2;refine .ifn (by omega) (.some ?_)
  show (l, st, tw) = _;rw [hl, hst, htw];rfl
def allOf (n : Nat) (mt : List Int) (g : Int → Int) (t : List Int) : Int := piecesOf mt (lostOf n t) + (strangeOf t).length + (twiceOf t).length + (movedOf (runsOf g t)).length
theorem faults_ok {s : Int} {g : List Gat} {its : List Item} {lv : List Leaf} {mt t : List Int} (hlv : lv.length ≤ 120) (hmt : mt.length = lv.length) (ht : t.length ≤ 120) (hin : TruthIn lv.length t) :
  P_c_faults s g its lv mt t = some ([], lostOf lv.length t, piecesOf mt (lostOf lv.length t), strangeOf t, twiceOf t, movedOf (runsOf (gathOf lv) t), allOf lv.length mt (gathOf lv) t) := by
 refine Ok.get ?_;unfold P_c_faults
 have hl := lostOf_len lv.length t
 have hp := piecesOf_le mt (lostOf lv.length t)
 have h1 : (strangeOf t).length ≤ 120 := Nat.le_trans (idxTo_len _ _ _) ht
 have h2 : (twiceOf t).length ≤ 120 := Nat.le_trans (idxTo_len _ _ _) ht
 have hr := runsTo_ok (g := gathOf lv) hin t.length
 have hm := movedOf_len (runsOf (gathOf lv) t)
 have hrl : (runsOf (gathOf lv) t).length ≤ t.length := hr.2;refine .andx' (lost_ok (by omega) (by omega)) ?_;obtain ⟨m1, e1⟩ := pieces_ok (mt := mt) (lostOf_sorted lv.length t) (fun x hx => by have := mem_lostOf.1 hx; rw [hmt]; omega) (by omega);refine .andx' e1 ?_;obtain ⟨m2, e2⟩ := runs_loop ht hin;refine .andx' e2 ?_;refine .andx' (moved_ok (by omega) hr.1) ?_;refine .chk (i64_small (by omega)) (.chk (i64_small (by omega)) (.chk (i64_small (by omega)) (.some rfl)))
end Go.Am
end
section
namespace Go.Am
def BadOrder (l : List Int) : Prop := ∃ (i : Nat) (a b : Int), l[i]? = some a ∧ l[i + 1]? = some b ∧ b ≤ a
open Classical in
noncomputable def itemErr (l : List Int) (n : Int) : Int := if 4 < l.length then 3 else if ∃ x ∈ l, x < 0 ∨ n - 1 < x then 4 else if BadOrder l then 2 else 0
noncomputable def itemsErr (n : Int) : Nat → List Item → Option (Nat × Int)
 | _, [] => none
 | i, x :: l => if itemErr x.could.l n = 0 then itemsErr n (i + 1) l else some (i, itemErr x.could.l n)
def doubtsErr : Nat → Nat → List Item → Option Nat
 | _, _, [] => none
 | d, i, x :: l => if 3 < (if 1 < x.could.l.length then d + 1 else d) then some i else doubtsErr (if 1 < x.could.l.length then d + 1 else d) (i + 1) l
noncomputable def caseErr (s : Int) (g : List Gat) (its : List Item) : Int × Int × Int :=
 if (bookErr (bk s g)).2.2 = 0 then
  if 120 < (leavesOf (bk s g)).length then (1, 0, 3)
  else if 120 < its.length then (2, 0, 3)
  else match itemsErr (leavesOf (bk s g)).length 0 its with
   | some (i, e) => (2, (i : Int), e)
   | none => match doubtsErr 0 0 its with
    | some i => (3, (i : Int), 3)
    | none => (0, 0, 0)
 else (1, 0, (bookErr (bk s g)).2.2)
theorem in_ok {n lo hi : Int} : P_r4_in n lo hi = some (decide (lo ≤ n ∧ n ≤ hi)) := by
 unfold P_r4_in
 by_cases h : n ≥ lo
 ·rw [if_pos h]; simp [andx, show lo ≤ n from h]
 ·rw [if_neg h]; simp [andx, show ¬ lo ≤ n from h]
theorem item_ok {l : List Int} {n : Int} (hn : 0 ≤ n ∧ n ≤ 1000000) : P_r4_item l n = some (itemErr l n) := by
 refine Ok.get ?_;unfold P_r4_item itemErr;refine .ite (fun h => ?_) (fun h => ?_)
 ·rw [if_pos (by omega)]; exact .some rfl
 ·rw [if_neg (by omega)];refine Ok.seqx (Ok.count id l.length (fun k s => ∀ x ∈ l.take k, ¬ (x < 0 ∨ n - 1 < x)) rfl (by simp) ?_ ?_)
  ·rintro k x hk hx hi;simp only [id] at hx;unfold P_r4_item_L1;refine .ifp (by omega) (.el (by omega) fun a ha => .chk (i64_small (by omega)) (.andx' in_ok ?_))
   have ha := get_of ha hx;refine .ite (fun hc => ?_) (fun hc => ?_)
   ·refine .chk (i64_small (by omega)) (.some ⟨by simp only [id]; omega, ?_⟩)
    show ∀ y ∈ l.take (k + 1), _;rw [take_snoc ha];intro y hy
    rcases List.mem_append.1 hy with hy | hy
    ·exact hi y hy
    ·simp at hy; subst hy; simp at hc; omega
   ·refine .some ?_
    show 4 = _;rw [if_pos ⟨a, List.mem_of_getElem? ha, by simp at hc; omega⟩]
  ·rintro x hx hi;simp only [id] at hx;unfold P_r4_item_L1;rw [List.take_length] at hi;refine .ifn (by omega) (.some ?_)
   show Ok _ _;rw [if_neg (fun ⟨y, h1, h2⟩ => hi y h1 h2)];refine Ok.seqx (Ok.iter (fun i => 1 ≤ i ∧ ∀ (k : Nat) (a b : Int), (k : Int) + 1 < i → l[k]? = some a → l[k + 1]? = some b → a < b) (fun i => l.length - i.toNat) ⟨by omega, fun k a b h => by omega⟩ ?_);rintro i ⟨h1, h2⟩;unfold P_r4_item_L2;refine .ite (fun hc => ?_) (fun hc => ?_)
   ·refine .el (by omega) fun b hb => .chk (i64_small (by omega)) (.el (by omega) fun a ha => ?_)
    have e : i.toNat = (i - 1).toNat + 1 := by omega
    rw [e] at hb;refine .ite (fun hd => .some ?_) (fun hd => .chk (i64_small (by omega)) (.some ⟨⟨by omega, ?_⟩, by simp only; omega⟩))
    ·show 2 = _;rw [if_pos ⟨_, a, b, ha, hb, hd⟩]
    ·intro k a' b' hk ha' hb'
     by_cases hk' : (k : Int) + 1 < i
     ·exact h2 k a' b' hk' ha' hb'
     ·have : k = (i - 1).toNat := by omega
      subst this;rw [ha] at ha'; rw [hb] at hb';cases ha'; cases hb';omega
   ·refine .some ?_
    show Ok _ _;refine .some ?_;rw [if_neg];rintro ⟨k, a, b, ha, hb, hd⟩
    have := (List.getElem?_eq_some_iff.1 hb).1
    have := h2 k a b (by omega) ha hb;omega
theorem itemsErr_drop {n : Int} {l : List Item} {k : Nat} {x : Item} (h : l[k]? = some x) : itemsErr n k (l.drop k) = if itemErr x.could.l n = 0 then itemsErr n (k + 1) (l.drop (k + 1)) else some (k, itemErr x.could.l n) := by
 rw [drop_cons h]; rfl
theorem doubtsErr_drop {d : Nat} {l : List Item} {k : Nat} {x : Item} (h : l[k]? = some x) : doubtsErr d k (l.drop k) = if 3 < (if 1 < x.could.l.length then d + 1 else d) then some k else doubtsErr (if 1 < x.could.l.length then d + 1 else d) (k + 1) (l.drop (k + 1)) := by
 rw [drop_cons h]; rfl
theorem r4_Check_ok {s : Int} {g : List Gat} {its : List Item} : P_r4_Check s g its = some (caseErr s g its) := by
 refine Ok.get ?_;unfold P_r4_Check caseErr;refine .andx' (x := P_r1_Check s g) rfl ?_;dsimp only
 by_cases h0 : (bookErr (bk s g)).2.2 = 0
 ·have hf := book_fits h0
  have hall : P_r1_All s g = some (leavesOf (bk s g)) := by unfold P_r1_All; rw [chk_pos hf]
  have hlen := leaves_len hf;rw [if_pos h0, if_pos h0, hall];simp only [andx];generalize hL : leavesOf (bk s g) = lv at hlen
  by_cases h1 : 120 < lv.length
  ·rw [if_pos (show decide ((lv.length : Int) > 120) = true by simp; omega), if_pos h1];simp only;refine .ifp (by omega) (.some rfl)
  ·rw [if_neg (show ¬ decide ((lv.length : Int) > 120) = true by simp; omega), if_neg h1];simp only [h0];refine .ifn (by simp) ?_
   by_cases h2 : 120 < its.length
   ·rw [if_pos h2]; refine .ifp (by omega) (.some rfl)
   ·rw [if_neg h2];refine .ifn (by omega) (Ok.seqx (Ok.count id its.length (fun k _ => itemsErr lv.length 0 its = itemsErr lv.length k (its.drop k)) rfl rfl ?_ ?_))
    ·rintro k i hk hi hI;simp only [id] at hi;subst hi;unfold P_r4_Check_L1;refine .ifp (by omega) (.el (by omega) fun x hx => .andx' (item_ok (by omega)) ?_)
     have hx := get_of hx rfl;rw [itemsErr_drop hx] at hI;refine .ite (fun hc => ?_) (fun hc => ?_)
     ·rw [if_neg hc] at hI;refine .some ?_
      show _ = _;rw [hI]
     ·rw [if_pos (by omega)] at hI;exact .chk (i64_small (by omega)) (.some ⟨rfl, hI⟩)
    ·rintro i hi hI;simp only [id] at hi;subst hi;unfold P_r4_Check_L1;rw [List.drop_length] at hI;refine .ifn (by omega) (.some ?_)
     show Ok _ _;rw [hI];simp only [itemsErr];refine Ok.seqx (Ok.count (σ := Int × Int) Prod.snd its.length (fun k s => ∃ d : Nat, s.1 = d ∧ d ≤ 3 ∧ doubtsErr 0 0 its = doubtsErr d k (its.drop k)) rfl ⟨0, rfl, by omega, rfl⟩ ?_ ?_)
     ·rintro k ⟨dd, i⟩ hk hi ⟨d, hd, hd3, hI⟩;simp only at hi hd;subst hi hd;unfold P_r4_Check_L2;refine .ifp (by omega) (Ok.seqx ?_);refine Ok.andx (P := fun j => ∃ x, its[k]? = some x ∧ j = ((if 1 < x.could.l.length then d + 1 else d : Nat) : Int)) (.el (by omega) fun x hx => ?_) ?_
      ·have hx := get_of hx rfl;refine .ite (fun hc => .chk (i64_small (by omega)) (.some ⟨x, hx, ?_⟩)) (fun hc => .some ⟨x, hx, ?_⟩)
       ·rw [if_pos (by omega)]; rfl
       ·rw [if_neg (by omega)]
      ·rintro j ⟨x, hx, rfl⟩;rw [doubtsErr_drop hx] at hI;generalize (if 1 < x.could.l.length then d + 1 else d) = e at hI;refine .ite (fun hc => ?_) (fun hc => ?_)
       ·rw [if_pos (by omega)] at hI;refine .some ?_
        show _ = _;rw [hI]
       ·rw [if_neg (by omega)] at hI;refine .some ?_
        show Ok _ _;exact .chk (i64_small (by omega)) (.some ⟨rfl, e, rfl, by omega, hI⟩)
     ·rintro ⟨dd, i⟩ hi ⟨d, hd, hd3, hI⟩;simp only at hi hd;subst hi hd;unfold P_r4_Check_L2;rw [List.drop_length] at hI;refine .ifn (by omega) (.some ?_)
      show Ok _ _;rw [hI];exact .some rfl
 ·rw [if_neg h0, if_neg h0];simp only [andx];rw [if_neg (by simp)];simp only;exact .ifp h0 (.some rfl)
end Go.Am
end
