/- Part 4. -/
import Derived.Test.YthckcbfijdambaaCopyWholeP3
import Derived.Test.YthckcbfijdambaaCopyWholeP2
import Derived.ChangeArms
import Derived.ChangeSlices
import Derived.OpenShut
import Derived.Test.YthckcbfijdambaaRows
import Derived.ProofKit
section
namespace Go.Am.Ythckcbfijdambaa
open Go.Am Go.RowKit
set_option linter.unusedVariables false
set_option linter.unusedSimpArgs false
set_option maxRecDepth 10000 in
theorem tf_c_wide {k : Nat} (hk : 0 ≤ k) {C : List Thing} {id_x : Nat} {x_CpCase_Book_Signed : Int} {v_x_CpCase_Book_Gatherings : AV} {x_CpCase_Book_Gatherings : List Gat} {v_x_CpCase_Items : AV} {x_CpCase_Items : List Item} {v_x_leaves : AV} {x_leaves : List Leaf} {v_x_mates : AV} {x_mates : List Int} (h_x_CpCase_Book_Gatherings : Rdl C encG v_x_CpCase_Book_Gatherings x_CpCase_Book_Gatherings) (h_x_CpCase_Items : Rdl C encIt v_x_CpCase_Items x_CpCase_Items) (h_x_leaves : Rdl C encL v_x_leaves x_leaves) (h_x_mates : Rdl C encI v_x_mates x_mates) (h_x : Thing.row id_x 5 [iv (x_CpCase_Book_Signed), v_x_CpCase_Book_Gatherings, v_x_CpCase_Items, v_x_leaves, v_x_mates] ∈ C) {r : Int × Int} (h : P_c_wide x_CpCase_Book_Signed x_CpCase_Book_Gatherings x_CpCase_Items x_leaves x_mates = some r) :
  TF (EL k) 47 [.ptr id_x 0 5] C (RepF (fun (w : Unit) => .agg [iv r.1, iv r.2]) (fun (w : Unit) => C)) := by
 unfold P_c_wide at h;refine TF.enterG (fn := Go.Proofs.Try.f47) rfl rfl rfl rfl rfl (zU rfl (zQ 1 [_] R7 (fun b1=>zJ 2 [_,_] R7 (fun b2=>zN (zS (T.drawE (l1 := [0, 1, 2, 3, 4, 5, 6, 7, 8, 9, 10, 11, 12, 13]) (l2 := [14]) (by kernel_rfl) (by kernel_rfl) (yR R4 (vR (p := 1) R6) (yL R4 (Val.nil_ptr rfl) (yL R4 (Val.faddr_ptr (fo := 3) rfl rfl rfl) (yR R4 (Val.load_rowM h_x M2 ⟨_, rfl, rfl⟩ rfl rfl rfl) (yR R4 (Val.len_l h_x_leaves M2 rfl rfl) (yR R4 (vR (p := 1) R6) (yL R4 (Val.nil_ptr rfl) (yL R4 (Val.faddr_ptr (fo := 0) rfl rfl rfl) (yL R4 (Val.faddr_ptr (fo := 2) rfl rfl rfl) (yR R4 (Val.load_rowM h_x M2 ⟨_, rfl, rfl⟩ rfl rfl rfl) (yR R4 (Val.len_l h_x_CpCase_Items M2 rfl rfl) ?_)))))))))))))))));obtain ⟨hk16, h⟩ := chk_some h;refine yL R4 (Val.mul rfl rfl hk16) ?_;obtain ⟨hk17, h⟩ := chk_some h;refine yL R4 (Val.add rfl rfl hk17) (yL R4 (Val.faddr_ptr (fo := 0) rfl rfl rfl) (TD1.over (fun v => sameC_refl v) (all_cons (⟨_, rfl, (Val.len_l h_x_CpCase_Items M2 rfl rfl)⟩) (all_cons (⟨_, rfl, (Val.load_rowM h_x M2 ⟨_, rfl, rfl⟩ rfl rfl rfl)⟩) (all_cons (⟨_, rfl, (vR (p := 1) R6)⟩) (all_cons (⟨_, rfl, (Val.len_l h_x_leaves M2 rfl rfl)⟩) (all_cons (⟨_, rfl, (Val.load_rowM h_x M2 ⟨_, rfl, rfl⟩ rfl rfl rfl)⟩) (all_cons (⟨_, rfl, (vR (p := 1) R6)⟩) all_nil)))))) (TD2.heavy (fun v => sameC_refl v) rfl (by decide) rfl rfl (OpS.eff (Eff.store_row (p := 0) (cv := [_]) (cells' := [_, _]) rfl rfl rfl rfl rfl rfl rfl rfl aG (by decide) rfl)) ?_)));rintro _ _ rfl;refine ⟨(all_cons (.inl (by kernel_rfl)) (all_cons (.inl (by kernel_rfl)) (all_cons (.inl (by kernel_rfl)) (all_cons (.inl (by kernel_rfl)) (all_cons (.inl (by kernel_rfl)) (all_cons (.inl (by kernel_rfl)) all_nil)))))), all_nil, ?_⟩;refine yG (_::_::C) rfl (TD2.nil ?_)
 show T _ _ _ _ _ _;apply T.joinA (r := r) (W := Nat) (fun j w => ⟨[w], [(2, .ptr b2 0 2)], .obj w (.dfr true) :: .row b2 2 [iv (j.1), iv (j.2)] :: .row b1 1 [.ptr id_x 0 5] :: C⟩) h
 ·intro j h;refine zU rfl (zL 1 R3 R6 (TO.callIn rfl rfl rfl rfl rfl rfl (orcN rfl) (TF.enter (fn := Go.Proofs.Try.f39) rfl rfl rfl rfl rfl (zU rfl (zQ 1 [_] R7 (fun b1_2=>zA R4 (zN (zU rfl (zV R3 (Val.makeFunc rfl rfl) (zA R4 (zN (zR ?_))))))))))));refine ⟨rfl, _, rfl, ?_⟩;refine zN (zB ?_);obtain ⟨hkR1, h⟩ := chk_some h
  show T _ _ _ _ _ _;apply T.rangeP (r := j) (W := Unit) (w0 := ()) ArgT (fun (j : Int × Int) (w : Unit) => [.row b2 2 [iv (j.1), iv (j.2)]]) (.row b1_2 1 [.ptr id_x 0 5] :: .row b1 1 [.ptr id_x 0 5] :: C) h
  ·rfl
  ·rfl
  ·rfl
  ·exact (pk [1] rfl)
  ·exact tr_yields (List.mem_of_getElem? (i := 0) rfl) (M2 _ h_x) (Rdl.mono h_x_CpCase_Items M2) hkR1
  ·rintro l1 d ⟨s_Lo, s_Hi⟩ _ t vs G F1 ans hmem harg hD hG h;unfold P_c_wide_L1 at h;dsimp only at h;obtain ⟨v_t, rfl, rfl⟩ := harg
   have h_t : Rdl F1 encI v_t t := .inr ⟨false, hG _ (by simp)⟩
   have hCF : ∀ x ∈ C, x ∈ F1 := fun x hx => hD x (memS M1 x hx)
   replace h_x_CpCase_Book_Gatherings := Rdl.mono h_x_CpCase_Book_Gatherings hCF;replace h_x_CpCase_Items := Rdl.mono h_x_CpCase_Items hCF;replace h_x_leaves := Rdl.mono h_x_leaves hCF;replace h_x_mates := Rdl.mono h_x_mates hCF;replace h_x := hCF _ h_x
   have hu1_t3 : Thing.row b1_2 1 [.ptr id_x 0 5] ∈ F1 := (hD _ (List.mem_of_getElem? (i := 0) rfl))
   have hu1_t1 : Thing.row b1 1 [.ptr id_x 0 5] ∈ F1 := (hD _ (List.mem_of_getElem? (i := 1) rfl));refine ⟨_, rfl, fun LR1 LB1 hLB1 => ?_⟩;refine T.things (hs' := LR1 :: .row b2 2 [iv (s_Lo), iv (s_Hi)] :: F1) rfl (zT rfl (zA R4 (zN ?_)));refine ⟨rfl, 0, rfl, ?_⟩;refine T.things (hs' := LB1 :: .row b2 2 [iv (s_Lo), iv (s_Hi)] :: F1) rfl (zB (zU rfl (zV R3 (Val.load_rowM hu1_t1 M2 ⟨_, rfl, rfl⟩ rfl rfl rfl) (zM R4 ?_))));obtain ⟨⟨y24, y24_2, y24_3, y24_4, y24_5, y24_6, y24_7⟩, hr24, h⟩ := andx_some h;dsimp only at h;refine TO.callT (first := []) (cap := []) (vs := [.ptr id_x 0 5, v_t]) rfl rfl rfl rfl rfl rfl (orcN rfl) (tf_c_faults aD (Rdl.mono h_x_CpCase_Book_Gatherings M2) (Rdl.mono h_x_CpCase_Items M2) (Rdl.mono h_x_leaves M2) (Rdl.mono h_x_mates M2) (M2 _ h_x) (Rdl.mono h_t M2) hr24) ?_;rintro ⟨w24, w24_2, w24_3, w24_4, w24_5⟩;refine zG (_::_::_::_::_::_::_::F1) rfl (zV R3 (Val.field (k := 0) rfl rfl rfl rfl rfl) (zA R4 (zN (zT rfl (zF 0 R6 (zL 6 R3 R6 (zM R4 (zV R3 (Val.bmin rfl rfl) (zF 1 R6 (zL 6 R3 R6 (zM R4 (zV R3 (Val.bmax rfl rfl) (zV R3 (Val.buildC (cs := [_, _]) (vs := [(_, _), (_, _)]) (ws := [(_, [_]), (_, [_])]) rfl rfl (CellsL.cons rfl (CellsL.cons rfl CellsL.nil)) rfl) (TO.eff0 rfl rfl (Eff.store_row (p := 6) (cv := [_, _]) (cells' := [_, _]) rfl rfl rfl rfl rfl rfl rfl rfl aG (by decide) rfl) ?_))))))))))))));rintro _ rfl;refine zG (_::_::_::_::_::_::_::F1) rfl (zN ?_);cases h;exact ⟨rfl, (), (pk [5,5,98,98,98,98,98] rfl)⟩
  ·rintro d ⟨s_Lo, s_Hi⟩ _ h;dsimp only at h;cases h;exact ⟨rfl, d, (sb (pk [0,0,1,98] rfl))⟩
 ·rintro ⟨s_Lo, s_Hi⟩ iddfr1 h;dsimp only at h;dsimp only;refine zU rfl (zV R3 (vW 1 [_,_] R5 R4) (TO.eff0 rfl rfl (Eff.store_row (p := 1) (cv := [_, _]) (cells' := [_, _]) rfl rfl rfl rfl rfl rfl rfl rfl aG (by decide) rfl) ?_));rintro _ rfl;refine zG (_::_::_::C) rfl (zN (zR ?_));cases h;exact ⟨rfl, _, ⟨0, rfl, rfl⟩, [_], ⟨⟨_, rfl, LoadR.rows (p := 0) (c := [_, _]) rfl ⟨⟨_, rfl, rfl⟩, rfl, by decide⟩ rfl rfl rfl⟩, trivial⟩, ⟨(), rfl, (pk [98,98] rfl)⟩⟩
set_option maxRecDepth 10000 in
theorem tf_c_open {k : Nat} (hk : 5 ≤ k) {C : List Thing} {c_Book_Signed : Int} {v_c_Book_Gatherings : AV} {c_Book_Gatherings : List Gat} {v_c_Items : AV} {c_Items : List Item} (h_c_Book_Gatherings : Rdl C encG v_c_Book_Gatherings c_Book_Gatherings) (h_c_Items : Rdl C encIt v_c_Items c_Items) {r : Sum (Int × Int × Int) (Int × (GS encL) × (List Int) × Int × Int × Int)} (h : P_c_open c_Book_Signed c_Book_Gatherings c_Items = some r) :
  TF (EL k) 36 [.agg [iv (c_Book_Signed), v_c_Book_Gatherings, v_c_Items]] C (RepS (fun (r : Int × Int × Int) => RepF (fun (w : Unit) => .tuple [.lit (.pointer none), iv r.1, iv r.2.1, iv r.2.2]) (fun (w : Unit) => C)) (fun (r : Int × (GS encL) × (List Int) × Int × Int × Int) => RepF (fun (w : Nat × AV) => .tuple [.ptr w.1 0 5, iv r.2.2.2.1, iv r.2.2.2.2.1, iv r.2.2.2.2.2]) (fun (w : Nat × AV) => .row w.1 5 [iv r.1, v_c_Book_Gatherings, v_c_Items, r.2.1.v, w.2] :: ownL true w.2 encI r.2.2.1 :: C)) r) := by
 unfold P_c_open at h;refine TF.enter (fn := Go.Proofs.Try.f36) rfl rfl rfl rfl rfl (zU rfl (zQ 3 [_,_,_] R7 (fun b1=>zA R4 (zA R4 (zA R4 (zA R4 (zN (zS (zU rfl (zF 0 R6 (zV R3 (vW 0 [_,_] R5 R4) ?_)))))))))));obtain ⟨⟨part21, at_21, e21⟩, hr21, h⟩ := andx_some h;dsimp only at h;obtain ⟨g, hgg, hrg⟩ := Rdl.reif (hs := .row b1 3 [iv (c_Book_Signed), v_c_Book_Gatherings, v_c_Items] :: C) h_c_Book_Gatherings M1 (ReifL.flat encG_tr);refine TO.call rfl rfl rfl rfl rfl (orcL rfl aD) (.cons (.agg (.cons .lit (.cons (hrg _) .nil))) .nil) (sem_of (w_q_Check c_Book_Signed g _ (by try rw [hgg]; exact hr21))) (zM R4 (zX R5 (zX R5 (zX R5 (zA R4 (zN (zU rfl (zM R4 ?_))))))));obtain ⟨c26, hc26⟩ := zY (¬ e21 = 0);refine zV R3 (Val.neq hc26 rfl rfl) (zN ?_);obtain ⟨rfl, hc26, h⟩ | ⟨rfl, hc26, h⟩ := zI hc26 h
 ·refine zC rfl (zU rfl (zM R4 (zA R4 (zA R4 (zA R4 (zA R4 (zN (zR ?_))))))));cases h;exact ⟨rfl, _, rfl, ⟨(), rfl, (pk [98] rfl)⟩⟩
 refine zD rfl (zK (zU rfl (zF 0 R6 (zV R3 (vW 0 [_,_] R5 R4) ?_))));obtain ⟨⟨leaves31, e31⟩, hr31, h⟩ := andx_some h;dsimp only at h;obtain ⟨g_2, hgg_2, hrg_2⟩ := Rdl.reif (hs := .row b1 3 [iv (c_Book_Signed), v_c_Book_Gatherings, v_c_Items] :: C) h_c_Book_Gatherings M1 (ReifL.flat encG_tr);refine TO.call rfl rfl rfl rfl rfl (orcL rfl aD) (.cons (.agg (.cons .lit (.cons (hrg_2 _) .nil))) .nil) (sem_of (w_q_Leaves c_Book_Signed g_2 _ (by try rw [hgg_2]; exact hr31))) (zM R4 (zX R5 (zX R5 (zA R4 (zA R4 (zN (zS (zU rfl (zM R4 (zV R3 (Val.len_gs rfl rfl) ?_))))))))));obtain ⟨c36, hc36⟩ := zY ((leaves31.length : Int) > 120);refine zV R3 (Val.gtr hc36 rfl rfl) (zN ?_);obtain ⟨rfl, hc36, h⟩ | ⟨rfl, hc36, h⟩ := zI hc36 h
 ·refine zC rfl (zU rfl (zA R4 (zA R4 (zA R4 (zA R4 (zN (zR ?_)))))));cases h;exact ⟨rfl, _, rfl, ⟨(), rfl, (pk [98] rfl)⟩⟩
 refine zD rfl (zK (zS (zU rfl (zF 2 R6 (zL 0 R3 R6 (zV R3 (Val.len_l h_c_Items M1 rfl rfl) ?_))))));obtain ⟨c40, hc40⟩ := zY ((c_Items.length : Int) > 120);refine zV R3 (Val.gtr hc40 rfl rfl) (zN ?_);obtain ⟨rfl, hc40, h⟩ | ⟨rfl, hc40, h⟩ := zI hc40 h
 ·refine zC rfl (zU rfl (zA R4 (zA R4 (zA R4 (zA R4 (zN (zR ?_)))))));cases h;exact ⟨rfl, _, rfl, ⟨(), rfl, (pk [98] rfl)⟩⟩
 refine zD rfl (zK ?_)
 show T _ _ _ _ _ _;apply T.join (r := r) (W := Unit) (fun j w => ⟨[], [(1, .ptr b1 0 3), (6, (GSo true encL leaves31).v)], .row b1 3 [iv (c_Book_Signed), v_c_Book_Gatherings, v_c_Items] :: C⟩) h
 ·intro j h;refine zU rfl (zF 2 R6 (zL 0 R3 R6 (zV R3 (Val.len_l h_c_Items M1 rfl rfl) (zM R4 (zN (zB ?_))))))
  show T _ _ _ _ _ _;apply T.iter (r := j) (W := Unit) (fun j w => ⟨[], [(1, .ptr b1 0 3), (6, (GSo true encL leaves31).v), (42, v_c_Items), (43, iv ((c_Items.length : Int))), (44, iv (j))], .row b1 3 [iv (c_Book_Signed), v_c_Book_Gatherings, v_c_Items] :: C⟩) (w0 := ()) h
  ·exact (sb .refl)
  rintro x44 _ a h;unfold P_c_open_L1 at h;refine zU rfl ?_;obtain ⟨c45, hc45⟩ := zY (x44 < (c_Items.length : Int));refine zV R3 (Val.lss hc45 rfl rfl) (zN (zS ?_));obtain ⟨rfl, hc45, h⟩ | ⟨rfl, hc45, h⟩ := zI hc45 h
  ·refine zC rfl (zK ?_)
   show T _ _ _ _ _ _;apply T.join (r := a) (W := Unit) (fun j w => ⟨[], [(1, .ptr b1 0 3), (6, (GSo true encL leaves31).v), (42, v_c_Items), (43, iv ((c_Items.length : Int))), (44, iv (x44))], .row b1 3 [iv (c_Book_Signed), v_c_Book_Gatherings, v_c_Items] :: C⟩) h
   ·intro j h;refine zB (zU rfl (zM R4 ?_));obtain ⟨a47, hia47, ea47, h⟩ := el_some h;refine TO.fact (rdl_at h_c_Items M1 hia47 ea47) (fun hp=>?_);obtain ⟨pa47, hpa47, hva47⟩ := hp;refine zV R3 (hva47 ⟨rfl, rfl⟩ rfl rfl) (zV R3 (Val.load_es (c := [_]) hpa47 M1 ⟨⟨_, rfl, rfl⟩, rfl, by decide⟩ rfl rfl rfl) (zJ 1 [_] R7 (fun b9=>zA R4 (TO.eff0 rfl rfl (Eff.store_row (p := 0) (cv := [_]) (cells' := [_]) rfl rfl rfl rfl rfl rfl rfl rfl aG (by decide) rfl) ?_))));rintro _ rfl;refine zG (_::_::C) rfl (zN (zS (zB (zU rfl (zF 0 R6 (zL 0 R3 R6 (zV R3 (Val.len_gs rfl rfl) ?_)))))));obtain ⟨c53, hc53⟩ := zY ((a47.could.l.length : Int) > 4);refine zV R3 (Val.gtr hc53 rfl rfl) (zA R4 (zN ?_));obtain ⟨rfl, hc53, h⟩ | ⟨rfl, hc53, h⟩ := zI hc53 h
    ·refine zC rfl (zU rfl (zM R4 (zA R4 (zA R4 (zA R4 (zA R4 (zN (zR ?_))))))));cases h;exact ⟨ret_ne, ⟨ret_ne, ⟨ret_ne, ⟨rfl, _, rfl, ⟨(), rfl, (pk [98,98] rfl)⟩⟩⟩⟩⟩
    refine zD rfl (zU rfl (zM R4 (zV R3 (Val.len_gs rfl rfl) ?_)));obtain ⟨hk58, h⟩ := chk_some h;refine zV R3 (Val.sub rfl rfl hk58) (zF 0 R6 (zL 0 R3 R6 ?_));obtain ⟨out61, hr61, h⟩ := andx_some h;refine TO.call rfl rfl rfl rfl rfl (orcL rfl aD) (.cons .lit (.cons .lit (.cons .gs .nil))) (sem_of (w_c_outside 0 ((leaves31.length : Int) - 1) a47.could _ (by exact hr61))) (zA R4 (zN ?_));obtain ⟨rfl, h⟩ | ⟨rfl, h⟩ := zZ h
    ·refine zC rfl (zU rfl (zM R4 (zA R4 (zA R4 (zA R4 (zA R4 (zN (zR ?_))))))));cases h;exact ⟨ret_ne, ⟨ret_ne, ⟨ret_ne, ⟨rfl, _, rfl, ⟨(), rfl, (pk [98,98] rfl)⟩⟩⟩⟩⟩
    refine zD rfl (zK (zU rfl (zF 0 R6 (zL 0 R3 R6 (zV R3 (Val.len_gs rfl rfl) (zM R4 (zN (zB ?_))))))))
    show T _ _ _ _ _ _;apply T.iter (r := j) (W := Unit) (fun j w => ⟨[], [(1, .ptr b1 0 3), (6, (GSo true encL leaves31).v), (8, iv (x44)), (9, .ptr b9 0 1), (42, v_c_Items), (43, iv ((c_Items.length : Int))), (44, iv (x44)), (64, a47.could.v), (65, iv ((a47.could.l.length : Int))), (66, iv (j))], .row b9 1 [a47.could.v] :: .row b1 3 [iv (c_Book_Signed), v_c_Book_Gatherings, v_c_Items] :: C⟩) (w0 := ()) h
    ·exact (sb .refl)
    rintro x66 _ a h;unfold P_c_open_L2 at h;refine zU rfl ?_;obtain ⟨c67, hc67⟩ := zY (x66 < (a47.could.l.length : Int));refine zV R3 (Val.lss hc67 rfl rfl) (zN (zS ?_));obtain ⟨rfl, hc67, h⟩ | ⟨rfl, hc67, h⟩ := zI hc67 h
    ·refine zC rfl (zK ?_)
     show T _ _ _ _ _ _;apply T.join (r := a) (W := Unit) (fun j w => ⟨[], [(1, .ptr b1 0 3), (6, (GSo true encL leaves31).v), (8, iv (x44)), (9, .ptr b9 0 1), (42, v_c_Items), (43, iv ((c_Items.length : Int))), (44, iv (x44)), (64, a47.could.v), (65, iv ((a47.could.l.length : Int))), (66, iv (x66))], .row b9 1 [a47.could.v] :: .row b1 3 [iv (c_Book_Signed), v_c_Book_Gatherings, v_c_Items] :: C⟩) h
     ·intro j h;refine zB (zU rfl (zM R4 ?_));obtain ⟨a69, hia69, ea69, h⟩ := el_some h;refine TO.fact (rdl_at (Rdl.gs (C := C) a47.could) M2 hia69 ea69) (fun hp=>?_);obtain ⟨pa69, hpa69, hva69⟩ := hp;refine zV R3 (hva69 ⟨rfl, rfl⟩ rfl rfl) (zV R3 (Val.load_e hpa69 M2 ⟨_, rfl, rfl⟩ rfl rfl) (zA R4 (zA R4 (zN ?_))))
      show T _ _ _ _ _ _;apply T.joinA (r := j) (W := Unit) (fun j w => ⟨[], [(1, .ptr b1 0 3), (6, (GSo true encL leaves31).v), (8, iv (x44)), (9, .ptr b9 0 1), (42, v_c_Items), (43, iv ((c_Items.length : Int))), (44, iv (x44)), (64, a47.could.v), (65, iv ((a47.could.l.length : Int))), (66, iv (x66)), (82, bv j)], .row b9 1 [a47.could.v] :: .row b1 3 [iv (c_Book_Signed), v_c_Book_Gatherings, v_c_Items] :: C⟩) h
      ·intro j h;refine zT rfl (zM R4 ?_);obtain ⟨c72, hc72⟩ := zY (x66 > 0);refine zV R3 (Val.gtr hc72 rfl rfl) (zM R4 ?_);obtain ⟨rfl, hc72, h⟩ | ⟨rfl, hc72, h⟩ := zI hc72 h
       ·refine zM R4 (zF 0 R6 (zL 0 R3 R6 (zM R4 ?_)));obtain ⟨hk78, h⟩ := chk_some h;refine zV R3 (Val.sub rfl rfl hk78) ?_;obtain ⟨a79, hia79, ea79, h⟩ := el_some h;refine TO.fact (rdl_at (Rdl.gs (C := C) a47.could) M2 hia79 ea79) (fun hp=>?_);obtain ⟨pa79, hpa79, hva79⟩ := hp;refine zV R3 (hva79 ⟨rfl, rfl⟩ rfl rfl) (zV R3 (Val.load_e hpa79 M2 ⟨_, rfl, rfl⟩ rfl rfl) ?_);obtain ⟨c81, hc81⟩ := zY (a69 ≤ a79);refine zV R3 (Val.leq hc81 rfl rfl) (zP R6 (zN ?_));subst hc81;cases h;exact ⟨rfl, (), (sb .refl)⟩
       refine zO R3 (zO R3 (zO R3 (zO R3 (zO R3 (zO R3 (zO R3 (zO R3 (zP R6 (zN ?_)))))))));cases h;exact ⟨rfl, (), (sb .refl)⟩
      ·rintro x82 _ h;obtain ⟨rfl, h⟩ | ⟨rfl, h⟩ := zZ h
       ·refine zC rfl (zU rfl (zM R4 (zA R4 (zA R4 (zA R4 (zA R4 (zN (zR ?_))))))));cases h;exact ⟨ret_ne, ⟨ret_ne, ⟨ret_ne, ⟨ret_ne, ⟨ret_ne, ⟨rfl, _, rfl, ⟨(), rfl, (pk [98,98] rfl)⟩⟩⟩⟩⟩⟩⟩
       refine zD rfl (zK ?_);cases h;exact ⟨rfl, (), (sb .refl)⟩
     ·rintro _ _ h;refine zT rfl ?_;obtain ⟨hk84, h⟩ := chk_some h;refine zV R3 (Val.add rfl rfl hk84) (zM R4 (zN ?_));cases h;exact ⟨rfl, (), (sb .refl)⟩
    refine zD rfl (zE ?_);cases h;exact ⟨ex_ne, ⟨rfl, (), (sb (pk [1,98] rfl))⟩⟩
   ·rintro _ _ h;refine zT rfl ?_;obtain ⟨hk85, h⟩ := chk_some h;refine zV R3 (Val.add rfl rfl hk85) (zM R4 (zN ?_));cases h;exact ⟨rfl, (), (sb .refl)⟩
  refine zD rfl (zE ?_);cases h;exact ⟨ex_ne, ⟨rfl, (), (sb .refl)⟩⟩
 ·rintro _ _ h;refine zU rfl (zA R4 (zN ?_))
  show T _ _ _ _ _ _;apply T.join (r := r) (W := Unit) (fun j w => ⟨[], [(1, .ptr b1 0 3), (6, (GSo true encL leaves31).v)], .row b1 3 [iv (c_Book_Signed), v_c_Book_Gatherings, v_c_Items] :: C⟩) h
  ·intro j h;refine zU rfl (zF 2 R6 (zL 0 R3 R6 (zV R3 (Val.len_l h_c_Items M1 rfl rfl) (zM R4 (zN (zB ?_))))))
   show T _ _ _ _ _ _;apply T.iter (r := j) (W := Unit) (fun j w => ⟨[], [(1, .ptr b1 0 3), (6, (GSo true encL leaves31).v), (12, iv (j.1)), (87, v_c_Items), (88, iv ((c_Items.length : Int))), (89, iv (j.2))], .row b1 3 [iv (c_Book_Signed), v_c_Book_Gatherings, v_c_Items] :: C⟩) (w0 := ()) h
   ·exact (sb .refl)
   rintro ⟨doubts, x89⟩ _ a h;unfold P_c_open_L3 at h;dsimp only at h;dsimp only;refine zU rfl ?_;obtain ⟨c90, hc90⟩ := zY (x89 < (c_Items.length : Int));refine zV R3 (Val.lss hc90 rfl rfl) (zN (zS ?_));obtain ⟨rfl, hc90, h⟩ | ⟨rfl, hc90, h⟩ := zI hc90 h
   ·refine zC rfl (zK ?_)
    show T _ _ _ _ _ _;apply T.join (r := a) (W := Unit) (fun j w => ⟨[], [(1, .ptr b1 0 3), (6, (GSo true encL leaves31).v), (12, iv (j)), (87, v_c_Items), (88, iv ((c_Items.length : Int))), (89, iv (x89))], .row b1 3 [iv (c_Book_Signed), v_c_Book_Gatherings, v_c_Items] :: C⟩) h
    ·intro j h;refine zB (zU rfl (zM R4 ?_));obtain ⟨a92, hia92, ea92, h⟩ := el_some h;refine TO.fact (rdl_at h_c_Items M1 hia92 ea92) (fun hp=>?_);obtain ⟨pa92, hpa92, hva92⟩ := hp;refine zV R3 (hva92 ⟨rfl, rfl⟩ rfl rfl) (zV R3 (Val.load_es (c := [_]) hpa92 M1 ⟨⟨_, rfl, rfl⟩, rfl, by decide⟩ rfl rfl rfl) (zJ 1 [_] R7 (fun b14=>zA R4 (TO.eff0 rfl rfl (Eff.store_row (p := 0) (cv := [_]) (cells' := [_]) rfl rfl rfl rfl rfl rfl rfl rfl aG (by decide) rfl) ?_))));rintro _ rfl;refine zG (_::_::C) rfl (zN ?_)
     show T _ _ _ _ _ _;apply T.joinA (r := j) (W := Unit) (fun j w => ⟨[], [(1, .ptr b1 0 3), (6, (GSo true encL leaves31).v), (12, iv (j)), (13, iv (x89)), (87, v_c_Items), (88, iv ((c_Items.length : Int))), (89, iv (x89))], .row b14 1 [a92.could.v] :: .row b1 3 [iv (c_Book_Signed), v_c_Book_Gatherings, v_c_Items] :: C⟩) h
     ·intro j h;refine zU rfl (zF 0 R6 (zL 0 R3 R6 (zV R3 (Val.len_gs rfl rfl) ?_)));obtain ⟨c97, hc97⟩ := zY ((a92.could.l.length : Int) > 1);refine zV R3 (Val.gtr hc97 rfl rfl) (zN ?_);obtain ⟨rfl, hc97, h⟩ | ⟨rfl, hc97, h⟩ := zI hc97 h
      ·refine zC rfl (zT rfl (zM R4 ?_));obtain ⟨hk99, h⟩ := chk_some h;refine zV R3 (Val.add rfl rfl hk99) (zA R4 (zN ?_));cases h;exact ⟨rfl, (), (sb .refl)⟩
      refine zD rfl (zK ?_);cases h;exact ⟨rfl, (), (sb .refl)⟩
     ·rintro doubts_2 _ h;refine zU rfl (zM R4 ?_);obtain ⟨c101, hc101⟩ := zY (doubts_2 > 3);refine zV R3 (Val.gtr hc101 rfl rfl) (zN ?_);obtain ⟨rfl, hc101, h⟩ | ⟨rfl, hc101, h⟩ := zI hc101 h
      ·refine zC rfl (zU rfl (zM R4 (zA R4 (zA R4 (zA R4 (zA R4 (zN (zR ?_))))))));cases h;exact ⟨ret_ne, ⟨ret_ne, ⟨ret_ne, ⟨rfl, _, rfl, ⟨(), rfl, (pk [98,98] rfl)⟩⟩⟩⟩⟩
      refine zD rfl (zK ?_);cases h;exact ⟨rfl, (), (sb (pk [1,98] rfl))⟩
    ·rintro doubts_2 _ h;refine zT rfl ?_;obtain ⟨hk103, h⟩ := chk_some h;refine zV R3 (Val.add rfl rfl hk103) (zM R4 (zN ?_));cases h;exact ⟨rfl, (), (sb .refl)⟩
   refine zD rfl (zE ?_);cases h;exact ⟨ex_ne, ⟨rfl, (), (sb .refl)⟩⟩
  ·rintro _ _ h;refine zU rfl (zV R3 (vW 0 [_,_,_] R5 R4) (zM R4 (zV R3 (Val.buildC (cs := [_, _, _, _, _]) (vs := [(_, _), (_, _)]) (ws := [(_, [_, _, _]), (_, [_])]) rfl rfl (CellsL.cons rfl (CellsL.cons (GS.cells (GSo true encL leaves31)).1 CellsL.nil)) rfl) (zQ 5 [_,_,_,_,_] R7 (fun b107=>zA R4 (zN ?_))))))
   show T _ _ _ _ _ _;apply T.joinA (r := r) (W := AV) (fun j w => ⟨[], [(2, .ptr b107 0 5)], ownL true w encI j :: .row b107 5 [iv (c_Book_Signed), v_c_Book_Gatherings, v_c_Items, (GSo true encL leaves31).v, w] :: .row b1 3 [iv (c_Book_Signed), v_c_Book_Gatherings, v_c_Items] :: C⟩) h
   ·intro j h;refine zU rfl (zM R4 (zV R3 (Val.len_gs rfl rfl) (zM R4 (zN (zB (T.nilown (u := encI.u) ?_))))))
    show T _ _ _ _ _ _;apply T.iter (r := j) (W := AV) (fun j w => ⟨[], [(1, .ptr b1 0 3), (2, .ptr b107 0 5), (109, iv ((leaves31.length : Int))), (110, iv (j.1))], ownL true w encI j.2 :: .row b107 5 [iv (c_Book_Signed), v_c_Book_Gatherings, v_c_Items, (GSo true encL leaves31).v, w] :: .row b1 3 [iv (c_Book_Signed), v_c_Book_Gatherings, v_c_Items] :: C⟩) (w0 := nilS) h
    ·exact (sb .refl)
    rintro ⟨x110, b107_mates⟩ v5 a h;unfold P_c_open_L4 at h;dsimp only at h;dsimp only;refine zU rfl ?_;obtain ⟨c111, hc111⟩ := zY (x110 < (leaves31.length : Int));refine zV R3 (Val.lss hc111 rfl rfl) (zN (zS ?_));obtain ⟨rfl, hc111, h⟩ | ⟨rfl, hc111, h⟩ := zI hc111 h
    ·refine zC rfl (zK ?_)
     show T _ _ _ _ _ _;apply T.joinA (r := a) (W := AV) (fun j w => ⟨[], [(1, .ptr b1 0 3), (2, .ptr b107 0 5), (109, iv ((leaves31.length : Int))), (110, iv (x110))], ownL true w encI j :: .row b107 5 [iv (c_Book_Signed), v_c_Book_Gatherings, v_c_Items, (GSo true encL leaves31).v, w] :: .row b1 3 [iv (c_Book_Signed), v_c_Book_Gatherings, v_c_Items] :: C⟩) h
     ·intro j h;refine zB (zU rfl (zM R4 (zA R4 (zN (zU rfl (zF 0 R6 (zV R3 (vW 2 [_,_] R5 R4) (zM R4 ?_))))))));obtain ⟨⟨mate117, e117⟩, hr117, h⟩ := andx_some h;dsimp only at h;obtain ⟨g_3, hgg_3, hrg_3⟩ := Rdl.reif (hs := ownL true v5 encI b107_mates :: .row b107 5 [iv (c_Book_Signed), v_c_Book_Gatherings, v_c_Items, (GSo true encL leaves31).v, v5] :: .row b1 3 [iv (c_Book_Signed), v_c_Book_Gatherings, v_c_Items] :: C) h_c_Book_Gatherings M3 (ReifL.flat encG_tr);refine TO.call rfl rfl rfl rfl rfl (orcL rfl aD) (.cons (.agg (.cons .lit (.cons (hrg_3 _) .nil))) (.cons .lit .nil)) (sem_of (w_q_Mate c_Book_Signed g_3 x110 _ (by try rw [hgg_3]; exact hr117))) (zM R4 (zX R5 (zX R5 (zA R4 (zA R4 (zN ?_))))))
      show T _ _ _ _ _ _;apply T.joinA (r := j) (W := Unit) (fun j w => ⟨[], [(1, .ptr b1 0 3), (2, .ptr b107 0 5), (16, iv (j)), (109, iv ((leaves31.length : Int))), (110, iv (x110))], ownL true v5 encI b107_mates :: .row b107 5 [iv (c_Book_Signed), v_c_Book_Gatherings, v_c_Items, (GSo true encL leaves31).v, v5] :: .row b1 3 [iv (c_Book_Signed), v_c_Book_Gatherings, v_c_Items] :: C⟩) h
      ·intro j h;refine zU rfl (zM R4 ?_);obtain ⟨c121, hc121⟩ := zY (¬ e117 = 0);refine zV R3 (Val.neq hc121 rfl rfl) (zN ?_);obtain ⟨rfl, hc121, h⟩ | ⟨rfl, hc121, h⟩ := zI hc121 h
       ·refine zC rfl (zT rfl (zA R4 (zN ?_)));cases h;exact ⟨rfl, (), (sb .refl)⟩
       refine zD rfl (zK ?_);cases h;exact ⟨rfl, (), (sb .refl)⟩
      ·rintro m _ h;refine zT rfl (zM R4 (zM R4 (zV R3 (Val.nil_ptr rfl) (zF 4 R6 (zL 1 R3 R6 (zM R4 (TO.build1 (en := encI) (a := m) rfl rfl rfl ⟨rfl, rfl⟩ ⟨_, rfl, rfl⟩ (by decide) (by decide) rfl rfl (fun v128=>?_))))))));obtain ⟨hk129, h⟩ := chk_some h;refine TO.eff rfl rfl rfl (Eff.append_own (b := 8) (en := encI) (l := b107_mates) (l2 := [m]) (p := 1) (q := 0) ⟨rfl, rfl, rfl, ⟨_, rfl, rfl⟩, by decide, by decide⟩ rfl rfl rfl rfl rfl rfl (flat_ones _) (by decide) hk129) ?_;rintro v129 _ rfl;refine zG (_::_::_::_::C) rfl (zV R3 (Val.nil_ptr rfl) (zF 4 R6 (TO.fact (own_cellS (p := 1) rfl) (fun hot5=>TO.eff0 rfl rfl (Eff.store_row (p := 2) (cv := [_]) (cells' := [_, _, _, _, _]) rfl rfl rfl rfl rfl hot5.1 rfl rfl (by first | rfl | (simp [GS.one, hot5.2]; done)) (by decide) rfl) ?_))));rintro _ rfl;refine zG (_::_::_::_::C) rfl (zN ?_);cases h;exact ⟨rfl, v129, (sb (pk [1,1,1,98] rfl))⟩
     ·rintro b107_mates_2 v5_2 h;refine zT rfl ?_;obtain ⟨hk132, h⟩ := chk_some h;refine zV R3 (Val.add rfl rfl hk132) (zM R4 (zN ?_));cases h;exact ⟨rfl, v5_2, (sb .refl)⟩
    refine zD rfl (zE ?_);cases h;exact ⟨ex_ne, ⟨rfl, v5, (sb .refl)⟩⟩
   ·rintro b107_mates v5 h;refine zU rfl (zM R4 (zA R4 (zA R4 (zA R4 (zA R4 (zN (zR ?_)))))));cases h;exact ⟨rfl, _, rfl, ⟨(b107, v5), rfl, (pk [1,0,98] rfl)⟩⟩
set_option maxRecDepth 10000 in
theorem tf_c_Faults {k : Nat} (hk : 5 ≤ k) {C : List Thing} {c_Book_Signed : Int} {v_c_Book_Gatherings : AV} {c_Book_Gatherings : List Gat} {v_c_Items : AV} {c_Items : List Item} (ht_c_Book_Gatherings : RdT encG v_c_Book_Gatherings c_Book_Gatherings) (ht_c_Items : RdT encIt v_c_Items c_Items) {r : (List Int) × Bool × (List Int) × Bool × Int × (List Int) × Bool × (List Int) × Bool × (List Int) × Bool × Int × Int} (h : P_c_Faults c_Book_Signed c_Book_Gatherings c_Items = some r) :
  TF (EL k) 19 [.agg [iv (c_Book_Signed), v_c_Book_Gatherings, v_c_Items]] C (RepF (fun (w : AV × AV × AV × AV × AV) => .tuple [.agg [w.1, w.2.1, iv r.2.2.2.2.1, w.2.2.1, w.2.2.2.1, w.2.2.2.2, iv r.2.2.2.2.2.2.2.2.2.2.2.1], iv r.2.2.2.2.2.2.2.2.2.2.2.2]) (fun (w : AV × AV × AV × AV × AV) => ownL r.2.1 w.1 encI r.1 :: ownL r.2.2.2.1 w.2.1 encI r.2.2.1 :: ownL r.2.2.2.2.2.2.1 w.2.2.1 encI r.2.2.2.2.2.1 :: ownL r.2.2.2.2.2.2.2.2.1 w.2.2.2.1 encI r.2.2.2.2.2.2.2.1 :: ownL r.2.2.2.2.2.2.2.2.2.2.1 w.2.2.2.2 encI r.2.2.2.2.2.2.2.2.2.1 :: C)) := by
 unfold P_c_Faults at h
 have h_c_Book_Gatherings : Rdl C encG v_c_Book_Gatherings c_Book_Gatherings := RdT.rdl ht_c_Book_Gatherings
 have h_c_Items : Rdl C encIt v_c_Items c_Items := RdT.rdl ht_c_Items;refine TF.enterG (fn := Go.Proofs.Try.f19) rfl rfl rfl rfl rfl (zU rfl (zQ 3 [_,_,_] R7 (fun b1=>zJ 7 [_,_,_,_,_,_,_] R7 (fun b2=>zA R4 (zN (T.scope (zU rfl (zV R3 (vW 1 [_,_,_] R5 R4) ?_))))))));obtain ⟨y12, hr12, h⟩ := andx_some h;cases y12 with
 | inl y12 =>
  obtain ⟨y12_2, y12_3, y12_4⟩ := y12;dsimp only at h;obtain ⟨hkn12, h⟩ := chk_some h;refine TO.callT (first := []) (cap := []) (vs := [.agg [iv (c_Book_Signed), v_c_Book_Gatherings, v_c_Items]]) rfl rfl rfl rfl rfl rfl (orcN rfl) (tf_c_open aD (Rdl.mono h_c_Book_Gatherings M2) (Rdl.mono h_c_Items M2) hr12) ?_;rintro _;refine zG (_::_::C) rfl (zM R4 (zX R5 (zX R5 (zX R5 (zX R5 (zJ 1 [_] R7 (fun b4=>TO.eff0 rfl rfl (Eff.store_row (p := 0) (cv := [_]) (cells' := [_]) rfl rfl rfl rfl rfl rfl rfl rfl aG (by decide) rfl) ?_)))))));rintro _ rfl;refine zG (_::_::_::C) rfl (zA R4 (zA R4 (zA R4 (zN (zS (zU rfl (zM R4 ?_)))))));obtain ⟨c18, hc18⟩ := zY (¬ y12_4 = 0);refine zV R3 (Val.neq hc18 rfl rfl) (zN ?_);obtain rfl : c18 = true := hc18.trans (decide_eq_true hkn12);refine zC rfl (zU rfl (zV R3 (vW 1 [_,_,_,_,_,_,_] R5 R4) (zM R4 (TO.eff0 rfl rfl (Eff.store_row (p := 1) (cv := [_, _, _, _, _, _, _]) (cells' := [_, _, _, _, _, _, _]) rfl rfl rfl rfl rfl rfl rfl rfl aG (by decide) rfl) ?_))));rintro _ rfl;refine zG (_::_::_::C) rfl (zA R4 (zN (T.nilown (u := encI.u) (T.nilown (u := encI.u) (T.nilown (u := encI.u) (T.nilown (u := encI.u) (T.nilown (u := encI.u) (zR ?_))))))));cases h;exact ⟨rfl, _, rfl, [_, _], ⟨⟨_, rfl, LoadR.rows (p := 6) (c := [_, _, _, _, _, _, _]) rfl ⟨⟨_, rfl, rfl⟩, rfl, by decide⟩ rfl rfl rfl⟩, ⟨rfl, trivial⟩⟩, ⟨(nilS, nilS, nilS, nilS, nilS), rfl, (pk [4,3,2,1,0,98,98,98] rfl)⟩⟩
 | inr y12 =>
  obtain ⟨y12_2, y12_3, y12_4, y12_5, y12_6, y12_7⟩ := y12;dsimp only at h;obtain ⟨hkn12, h⟩ := chk_some h;refine TO.callT (first := []) (cap := []) (vs := [.agg [iv (c_Book_Signed), v_c_Book_Gatherings, v_c_Items]]) rfl rfl rfl rfl rfl rfl (orcN rfl) (tf_c_open aD (Rdl.mono h_c_Book_Gatherings M2) (Rdl.mono h_c_Items M2) hr12) ?_;rintro ⟨w12, w12_2⟩;refine zG (_::_::_::_::C) rfl (zM R4 (zX R5 (zX R5 (zX R5 (zX R5 (zJ 1 [_] R7 (fun b4=>TO.eff0 rfl rfl (Eff.store_row (p := 0) (cv := [_]) (cells' := [_]) rfl rfl rfl rfl rfl rfl rfl rfl aG (by decide) rfl) ?_)))))));rintro _ rfl;refine zG (_::_::_::_::_::C) rfl (zA R4 (zA R4 (zA R4 (zN (zS (zU rfl (zM R4 ?_)))))));obtain ⟨c18, hc18⟩ := zY (¬ y12_7 = 0);refine zV R3 (Val.neq hc18 rfl rfl) (zN ?_);obtain rfl : c18 = false := hc18.trans (decide_eq_false (fun x => x hkn12));refine zD rfl (zK (zU rfl (zJ 1 [_] R7 (fun b7=>TO.eff0 rfl rfl (Eff.store_row (p := 0) (cv := [_]) (cells' := [_]) rfl rfl rfl rfl rfl rfl rfl rfl aG (by decide) rfl) ?_))));rintro _ rfl;refine zG (_::_::_::_::_::_::C) rfl (zN (zS (T.label ?_)))
  show T _ _ _ _ _ _;apply T.joinA (r := r) (W := Nat × AV × AV × AV × AV × AV) (fun j w => ⟨[w.1], [(2, .ptr b2 0 7)], .obj w.1 (.dfr true) :: ownL j.2.1 w.2.1 encI j.1 :: ownL true w.2.2.1 encI j.2.2.1 :: ownL true w.2.2.2.1 encI j.2.2.2.1 :: ownL true w.2.2.2.2.1 encI j.2.2.2.2.1 :: ownL true w.2.2.2.2.2 encI j.2.2.2.2.2.1 :: .row b7 1 [bv j.2.2.2.2.2.2.1] :: .row b2 7 [w.2.1, w.2.2.1, iv (j.2.2.2.2.2.2.2.1), w.2.2.2.1, w.2.2.2.2.1, w.2.2.2.2.2, iv (j.2.2.2.2.2.2.2.2)] :: .row b4 1 [.ptr w12 0 5] :: .row w12 5 [iv (y12_2), v_c_Book_Gatherings, v_c_Items, y12_3.v, w12_2] :: ownL true w12_2 encI y12_4 :: .row b1 3 [iv (c_Book_Signed), v_c_Book_Gatherings, v_c_Items] :: C⟩) h
  ·intro j h;refine zU rfl (zL 1 R3 R6 (TO.callIn rfl rfl rfl rfl rfl rfl (orcN rfl) (TF.enter (fn := Go.Proofs.Try.f39) rfl rfl rfl rfl rfl (zU rfl (zQ 1 [_] R7 (fun b1_2=>zA R4 (zN (zU rfl (zV R3 (Val.makeFunc rfl rfl) (zA R4 (zN (zR ?_))))))))))));refine ⟨rfl, _, rfl, ?_⟩;refine zN (zB (T.nilown (u := encI.u) (T.nilown (u := encI.u) (T.nilown (u := encI.u) (T.nilown (u := encI.u) (T.nilown (u := encI.u) ?_))))));obtain ⟨hkR1, h⟩ := chk_some h
   show T _ _ _ _ _ _;apply T.rangeP (r := j) (W := AV × AV × AV × AV × AV) (w0 := (nilS, nilS, nilS, nilS, nilS)) ArgT (fun (j : (List Int) × Bool × (List Int) × (List Int) × (List Int) × (List Int) × Bool × Int × Int) (w : AV × AV × AV × AV × AV) => [ownL j.2.1 w.1 encI j.1, ownL true w.2.1 encI j.2.2.1, ownL true w.2.2.1 encI j.2.2.2.1, ownL true w.2.2.2.1 encI j.2.2.2.2.1, ownL true w.2.2.2.2 encI j.2.2.2.2.2.1, .row b7 1 [bv j.2.2.2.2.2.2.1], .row b2 7 [w.1, w.2.1, iv (j.2.2.2.2.2.2.2.1), w.2.2.1, w.2.2.2.1, w.2.2.2.2, iv (j.2.2.2.2.2.2.2.2)]]) (.row b1_2 1 [.ptr w12 0 5] :: .row b4 1 [.ptr w12 0 5] :: .row w12 5 [iv (y12_2), v_c_Book_Gatherings, v_c_Items, y12_3.v, w12_2] :: ownL true w12_2 encI y12_4 :: .row b1 3 [iv (c_Book_Signed), v_c_Book_Gatherings, v_c_Items] :: C) h
   ·rfl
   ·rfl
   ·rfl
   ·exact (pk [0,0,0,0,0,1,4] rfl)
   ·exact tr_yields (List.mem_of_getElem? (i := 0) rfl) (List.mem_of_getElem? (i := 2) rfl) (Rdl.mono h_c_Items M5) hkR1
   ·rintro l1 d ⟨best_Leaves, z, best_Lost, best_Strange, best_Twice, best_Moved, first, best_Pieces, best_All⟩ ⟨v28, v23, v19, v16, v14⟩ t vs G F1 ans hmem harg hD hG h;unfold P_c_Faults_L1 at h;dsimp only at h;obtain ⟨v_t, rfl, rfl⟩ := harg
    have h_t : Rdl F1 encI v_t t := .inr ⟨false, hG _ (by simp)⟩
    have hCF : ∀ x ∈ C, x ∈ F1 := fun x hx => hD x (memS M4 x hx)
    replace h_c_Book_Gatherings := Rdl.mono h_c_Book_Gatherings hCF;replace h_c_Items := Rdl.mono h_c_Items hCF
    have hu1_t10 : Rdl F1 encI w12_2 y12_4 := .inr ⟨true, (hD _ (List.mem_of_getElem? (i := 3) rfl))⟩
    have hu1_t9 : Thing.row w12 5 [iv (y12_2), v_c_Book_Gatherings, v_c_Items, y12_3.v, w12_2] ∈ F1 := (hD _ (List.mem_of_getElem? (i := 2) rfl))
    have hu1_t1 : Thing.row b1 3 [iv (c_Book_Signed), v_c_Book_Gatherings, v_c_Items] ∈ F1 := (hD _ (List.mem_of_getElem? (i := 4) rfl))
    have hu1_t13 : Thing.row b1_2 1 [.ptr w12 0 5] ∈ F1 := (hD _ (List.mem_of_getElem? (i := 0) rfl))
    have hu1_t11 : Thing.row b4 1 [.ptr w12 0 5] ∈ F1 := (hD _ (List.mem_of_getElem? (i := 1) rfl));refine ⟨_, rfl, fun LR1 LB1 hLB1 => ?_⟩;refine T.things (hs' := LR1 :: ownL z v28 encI best_Leaves :: ownL true v23 encI best_Lost :: ownL true v19 encI best_Strange :: ownL true v16 encI best_Twice :: ownL true v14 encI best_Moved :: .row b7 1 [bv first] :: .row b2 7 [v28, v23, iv (best_Pieces), v19, v16, v14, iv (best_All)] :: F1) rfl (zT rfl (zA R4 (zN ?_)));refine ⟨rfl, 0, rfl, ?_⟩;refine T.things (hs' := LB1 :: ownL z v28 encI best_Leaves :: ownL true v23 encI best_Lost :: ownL true v19 encI best_Strange :: ownL true v16 encI best_Twice :: ownL true v14 encI best_Moved :: .row b7 1 [bv first] :: .row b2 7 [v28, v23, iv (best_Pieces), v19, v16, v14, iv (best_All)] :: F1) rfl (zB (zU rfl (zV R3 (Val.load_rowM hu1_t11 M8 ⟨_, rfl, rfl⟩ rfl rfl rfl) (zM R4 ?_))));obtain ⟨⟨y26, y26_2, y26_3, y26_4, y26_5, y26_6, y26_7⟩, hr26, h⟩ := andx_some h;dsimp only at h;refine TO.callT (first := []) (cap := []) (vs := [.ptr w12 0 5, v_t]) rfl rfl rfl rfl rfl rfl (orcN rfl) (tf_c_faults aD (Rdl.mono h_c_Book_Gatherings M8) (Rdl.mono h_c_Items M8) (Rdl.mono (Rdl.gs (C := F1) y12_3) M8) (Rdl.mono hu1_t10 M8) (M8 _ hu1_t9) (Rdl.mono h_t M8) hr26) ?_;rintro ⟨w26, w26_2, w26_3, w26_4, w26_5⟩;refine zG (_::_::_::_::_::_::_::_::_::_::_::_::_::F1) rfl (zJ 7 [_,_,_,_,_,_,_] R7 (fun b9=>TO.fact (own_cellS (p := 1) rfl) (fun hot44=>TO.fact (own_cellS (p := 2) rfl) (fun hot45=>TO.fact (own_cellS (p := 3) rfl) (fun hot46=>TO.fact (own_cellS (p := 4) rfl) (fun hot47=>TO.fact (own_cellS (p := 5) rfl) (fun hot48=>TO.eff0 rfl rfl (Eff.store_row (p := 0) (cv := [_, _, _, _, _, _, _]) (cells' := [_, _, _, _, _, _, _]) rfl rfl rfl rfl rfl rfl rfl rfl (by first | rfl | (simp [GS.one, hot44.2, hot45.2, hot46.2, hot47.2, hot48.2]; done) | (simp [GS.one, hot44.2, hot45.2, hot46.2, hot47.2, hot48.2]; (repeat' apply And.intro) <;> rfl)) (by decide) rfl) ?_)))))));rintro _ rfl;refine zG (_::_::_::_::_::_::_::_::_::_::_::_::_::_::F1) rfl (zN ?_)
    show T _ _ _ _ _ _;apply T.join (r := ans) (W := Unit) (fun j w => ⟨[], [(2, .ptr b2 0 7), (7, .ptr b7 0 1), (8, v_t), (9, .ptr b9 0 7)], .row b9 7 [w26, w26_2, iv (y26_3), w26_3, w26_4, w26_5, iv (y26_7)] :: ownL true w26 encI y26 :: ownL true w26_2 encI y26_2 :: ownL true w26_3 encI y26_4 :: ownL true w26_4 encI y26_5 :: ownL true w26_5 encI y26_6 :: LB1 :: ownL z v28 encI best_Leaves :: ownL true v23 encI best_Lost :: ownL true v19 encI best_Strange :: ownL true v16 encI best_Twice :: ownL true v14 encI best_Moved :: .row b7 1 [bv j] :: .row b2 7 [v28, v23, iv (best_Pieces), v19, v16, v14, iv (best_All)] :: F1⟩) h
    ·intro j h
     show T _ _ _ _ _ _;apply T.joinA (r := j) (W := Unit) (fun j w => ⟨[], [(2, .ptr b2 0 7), (7, .ptr b7 0 1), (8, v_t), (9, .ptr b9 0 7), (35, bv j.1)], .row b9 7 [w26, w26_2, iv (y26_3), w26_3, w26_4, w26_5, iv (y26_7)] :: ownL true w26 encI y26 :: ownL true w26_2 encI y26_2 :: ownL true w26_3 encI y26_4 :: ownL true w26_4 encI y26_5 :: ownL true w26_5 encI y26_6 :: LB1 :: ownL z v28 encI best_Leaves :: ownL true v23 encI best_Lost :: ownL true v19 encI best_Strange :: ownL true v16 encI best_Twice :: ownL true v14 encI best_Moved :: .row b7 1 [bv j.2] :: .row b2 7 [v28, v23, iv (best_Pieces), v19, v16, v14, iv (best_All)] :: F1⟩) h
     ·intro j h;refine zT rfl (zL 12 R3 R6 (zV R3 (Val.not rfl) (zM R4 ?_)));obtain ⟨rfl, h⟩ | ⟨rfl, h⟩ := zZ h
      ·refine zO R3 (zO R3 (zO R3 (zO R3 (zO R3 (zP R6 (zN ?_))))));cases h;exact ⟨rfl, (), (sb .refl)⟩
      refine zF 6 R6 (zL 0 R3 R6 (zF 6 R6 (zL 13 R3 R6 ?_)));obtain ⟨c34, hc34⟩ := zY (y26_7 ≥ best_All);refine zV R3 (Val.geq hc34 rfl rfl) (zP R6 (zN ?_));subst hc34;cases h;exact ⟨rfl, (), (sb .refl)⟩
     ·rintro ⟨x35, first_2⟩ _ h;dsimp only at h;dsimp only;obtain ⟨rfl, h⟩ | ⟨rfl, h⟩ := zZ h
      ·refine zC rfl (zE ?_);cases h;exact ⟨ex_ne, ⟨rfl, (v28, v23, v19, v16, v14), (pk [6,6,6,6,6,6,6,6,98,98,98,98,98,98] rfl)⟩⟩
      refine zD rfl (zK ?_);cases h;exact ⟨rfl, (), (sb .refl)⟩
    ·rintro first_2 _ h;refine zU rfl (zV R3 (vW 0 [_,_,_,_,_,_,_] R5 R4) (TO.fact (own_cellS (p := 1) rfl) (fun hot44=>TO.fact (own_cellS (p := 2) rfl) (fun hot45=>TO.fact (own_cellS (p := 3) rfl) (fun hot46=>TO.fact (own_cellS (p := 4) rfl) (fun hot47=>TO.fact (own_cellS (p := 5) rfl) (fun hot48=>TO.eff0 rfl rfl (Eff.store_row (p := 13) (cv := [_, _, _, _, _, _, _]) (cells' := [_, _, _, _, _, _, _]) rfl rfl rfl rfl rfl rfl rfl rfl (by first | rfl | (simp [GS.one, hot44.2, hot45.2, hot46.2, hot47.2, hot48.2]; done) | (simp [GS.one, hot44.2, hot45.2, hot46.2, hot47.2, hot48.2]; (repeat' apply And.intro) <;> rfl)) (by decide) rfl) ?_)))))));rintro _ rfl;refine zG (_::_::_::_::_::_::_::_::_::_::_::_::_::_::F1) rfl (TO.eff0 rfl rfl (Eff.store_row (p := 12) (cv := [_]) (cells' := [_]) rfl rfl rfl rfl rfl rfl rfl rfl aG (by decide) rfl) ?_);rintro _ rfl;refine zG (_::_::_::_::_::_::_::_::_::_::_::_::_::_::F1) rfl (zN (zU rfl (zM R4 (zV R3 (Val.len_l h_t (memS (memS (memS (memS (memS (memS M8)))))) rfl rfl) ?_))));obtain ⟨hk39, h⟩ := chk_some h;refine TO.makeE (en := encI) (0) (b := 8) rfl rfl rfl ⟨rfl, rfl⟩ rfl rfl rfl rfl rfl hk39 (by decide) (fun v39=>zF 0 R6 (TO.fact (own_cellS (p := 0) rfl) (fun hot50=>TO.eff0 rfl rfl (Eff.store_row (p := 14) (cv := [_]) (cells' := [_, _, _, _, _, _, _]) rfl rfl rfl rfl rfl hot50.1 rfl rfl (by first | rfl | (simp [GS.one, hot50.2]; done)) (by decide) rfl) ?_)));rintro _ rfl;refine zG (_::_::_::_::_::_::_::_::_::_::_::_::_::_::_::F1) rfl (zN (zT rfl (zF 0 R6 (zL 14 R3 R6 (zM R4 ?_)))));obtain ⟨hkcp, h⟩ := chk_some h;refine TO.eff rfl rfl rfl (Eff.copy_l (en := encI) (l := _) (p := 0) ⟨rfl, rfl⟩ (by decide) rfl rfl h_t (memS (memS (memS (memS (memS (memS (memS M8))))))) rfl rfl (flat_ones _) hkcp) ?_;rintro _ _ ⟨rfl, rfl⟩;refine zG (_::_::_::_::_::_::_::_::_::_::_::_::_::_::_::F1) rfl (zN ?_);cases h;exact ⟨rfl, (v39, w26_2, w26_3, w26_4, w26_5), (pk [7,0,2,2,2,2,7,7,98,98,98,98,98,98,98] rfl)⟩
   ·rintro d ⟨best_Leaves, z, best_Lost, best_Strange, best_Twice, best_Moved, first, best_Pieces, best_All⟩ ⟨v28, v23, v19, v16, v14⟩ h;dsimp only at h;cases h;exact ⟨rfl, (d, v28, v23, v19, v16, v14), (sb (pk [0,0,0,0,0,0,0,0,1,1,1,1,98] rfl))⟩
  ·rintro ⟨best_Leaves, z, best_Lost, best_Strange, best_Twice, best_Moved, first, best_Pieces, best_All⟩ ⟨iddfr1, v28, v23, v19, v16, v14⟩ h;dsimp only at h;dsimp only;refine zU rfl (zV R3 (vW 7 [_,_,_,_,_,_,_] R5 R4) (TO.fact (own_cellS (p := 1) rfl) (fun hot28=>TO.fact (own_cellS (p := 2) rfl) (fun hot23=>TO.fact (own_cellS (p := 3) rfl) (fun hot19=>TO.fact (own_cellS (p := 4) rfl) (fun hot16=>TO.fact (own_cellS (p := 5) rfl) (fun hot14=>TO.eff0 rfl rfl (Eff.store_row (p := 7) (cv := [_, _, _, _, _, _, _]) (cells' := [_, _, _, _, _, _, _]) rfl rfl rfl rfl rfl rfl rfl rfl (by first | rfl | (simp [GS.one, hot28.2, hot23.2, hot19.2, hot16.2, hot14.2]; done) | (simp [GS.one, hot28.2, hot23.2, hot19.2, hot16.2, hot14.2]; (repeat' apply And.intro) <;> rfl)) (by decide) rfl) ?_)))))));rintro _ rfl;refine zG (_::_::_::_::_::_::_::_::_::_::_::_::C) rfl (zA R4 (zN (zR ?_)));cases h;exact ⟨rfl, _, ⟨0, rfl, rfl⟩, [_, _], ⟨⟨_, rfl, LoadR.rows (p := 6) (c := [_, _, _, _, _, _, _]) rfl ⟨⟨_, rfl, rfl⟩, rfl, by decide⟩ rfl rfl rfl⟩, ⟨rfl, trivial⟩⟩, ⟨(v28, v23, v19, v16, v14), rfl, (pk [0,0,0,0,0,98,98,98,98,98,98] rfl)⟩⟩
theorem w_c_Faults (c_Book_Signed : Int) (c_Book_Gatherings : GS encG) (c_Items : GS encIt) (r : (List Int) × Bool × (List Int) × Bool × Int × (List Int) × Bool × (List Int) × Bool × (List Int) × Bool × Int × Int) (h : P_c_Faults c_Book_Signed c_Book_Gatherings.l c_Items.l = some r) : Comes (EL 5) 19 [.agg [iv (c_Book_Signed), c_Book_Gatherings.v, c_Items.v]] (.tuple [.agg [(GSo r.2.1 encI r.1).v, (GSo r.2.2.2.1 encI r.2.2.1).v, iv r.2.2.2.2.1, (GSo r.2.2.2.2.2.2.1 encI r.2.2.2.2.2.1).v, (GSo r.2.2.2.2.2.2.2.2.1 encI r.2.2.2.2.2.2.2.1).v, (GSo r.2.2.2.2.2.2.2.2.2.2.1 encI r.2.2.2.2.2.2.2.2.2.1).v, iv r.2.2.2.2.2.2.2.2.2.2.2.1], iv r.2.2.2.2.2.2.2.2.2.2.2.2]) :=
 TF.run (tf_c_Faults (Nat.le_refl _) (RdT.gs c_Book_Gatherings) (RdT.gs c_Items) h) fun w => (.tuple (.cons (.agg (.cons (.ownL (en := encI) (p := 0) rfl (.lits encI_lits)) (.cons (.ownL (en := encI) (p := 1) rfl (.lits encI_lits)) (.cons .lit (.cons (.ownL (en := encI) (p := 2) rfl (.lits encI_lits)) (.cons (.ownL (en := encI) (p := 3) rfl (.lits encI_lits)) (.cons (.ownL (en := encI) (p := 4) rfl (.lits encI_lits)) (.cons .lit .nil)))))))) (.cons .lit .nil)))
set_option maxRecDepth 10000 in
theorem tf_c_Range {k : Nat} (hk : 5 ≤ k) {C : List Thing} {c_Book_Signed : Int} {v_c_Book_Gatherings : AV} {c_Book_Gatherings : List Gat} {v_c_Items : AV} {c_Items : List Item} (ht_c_Book_Gatherings : RdT encG v_c_Book_Gatherings c_Book_Gatherings) (ht_c_Items : RdT encIt v_c_Items c_Items) {r : Int × Int × Int} (h : P_c_Range c_Book_Signed c_Book_Gatherings c_Items = some r) :
  TF (EL k) 27 [.agg [iv (c_Book_Signed), v_c_Book_Gatherings, v_c_Items]] C (RepF (fun (w : Unit) => .tuple [.agg [iv r.1, iv r.2.1], iv r.2.2]) (fun (w : Unit) => C)) := by
 unfold P_c_Range at h
 have h_c_Book_Gatherings : Rdl C encG v_c_Book_Gatherings c_Book_Gatherings := RdT.rdl ht_c_Book_Gatherings
 have h_c_Items : Rdl C encIt v_c_Items c_Items := RdT.rdl ht_c_Items;refine TF.enterG (fn := Go.Proofs.Try.f27) rfl rfl rfl rfl rfl (zU rfl (zQ 3 [_,_,_] R7 (fun b1=>zJ 2 [_,_] R7 (fun b2=>zA R4 (zN (zU rfl (zV R3 (vW 1 [_,_,_] R5 R4) ?_)))))));obtain ⟨y10, hr10, h⟩ := andx_some h;cases y10 with
 | inl y10 =>
  obtain ⟨y10_2, y10_3, y10_4⟩ := y10;dsimp only at h;obtain ⟨hkn10, h⟩ := chk_some h;refine TO.callT (first := []) (cap := []) (vs := [.agg [iv (c_Book_Signed), v_c_Book_Gatherings, v_c_Items]]) rfl rfl rfl rfl rfl rfl (orcN rfl) (tf_c_open aD (Rdl.mono h_c_Book_Gatherings M2) (Rdl.mono h_c_Items M2) hr10) ?_;rintro _;refine zG (_::_::C) rfl (zM R4 (zX R5 (zX R5 (zX R5 (zX R5 (zA R4 (zA R4 (zA R4 (zA R4 (zN (zS (zU rfl (zM R4 ?_)))))))))))));obtain ⟨c16, hc16⟩ := zY (¬ y10_4 = 0);refine zV R3 (Val.neq hc16 rfl rfl) (zN ?_);obtain rfl : c16 = true := hc16.trans (decide_eq_true hkn10);refine zC rfl (zU rfl (zV R3 (Val.buildC (cs := [_, _]) (vs := []) (ws := []) rfl rfl CellsL.nil rfl) (zM R4 (TO.eff0 rfl rfl (Eff.store_row (p := 0) (cv := [_, _]) (cells' := [_, _]) rfl rfl rfl rfl rfl rfl rfl rfl aG (by decide) rfl) ?_))));rintro _ rfl;refine zG (_::_::C) rfl (zA R4 (zN (zR ?_)));cases h;exact ⟨rfl, _, rfl, [_, _], ⟨⟨_, rfl, LoadR.rows (p := 0) (c := [_, _]) rfl ⟨⟨_, rfl, rfl⟩, rfl, by decide⟩ rfl rfl rfl⟩, ⟨rfl, trivial⟩⟩, ⟨(), rfl, (pk [98,98] rfl)⟩⟩
 | inr y10 =>
  obtain ⟨y10_2, y10_3, y10_4, y10_5, y10_6, y10_7⟩ := y10;dsimp only at h;obtain ⟨hkn10, h⟩ := chk_some h;refine TO.callT (first := []) (cap := []) (vs := [.agg [iv (c_Book_Signed), v_c_Book_Gatherings, v_c_Items]]) rfl rfl rfl rfl rfl rfl (orcN rfl) (tf_c_open aD (Rdl.mono h_c_Book_Gatherings M2) (Rdl.mono h_c_Items M2) hr10) ?_;rintro ⟨w10, w10_2⟩;refine zG (_::_::_::_::C) rfl (zM R4 (zX R5 (zX R5 (zX R5 (zX R5 (zA R4 (zA R4 (zA R4 (zA R4 (zN (zS (zU rfl (zM R4 ?_)))))))))))));obtain ⟨c16, hc16⟩ := zY (¬ y10_7 = 0);refine zV R3 (Val.neq hc16 rfl rfl) (zN ?_);obtain rfl : c16 = false := hc16.trans (decide_eq_false (fun x => x hkn10));refine zD rfl (zK (zU rfl (zM R4 ?_)));obtain ⟨⟨y20, y20_2⟩, hr20, h⟩ := andx_some h;dsimp only at h;refine TO.callT (first := []) (cap := []) (vs := [.ptr w10 0 5]) rfl rfl rfl rfl rfl rfl (orcN rfl) (tf_c_wide aD (Rdl.mono h_c_Book_Gatherings M4) (Rdl.mono h_c_Items M4) (Rdl.mono (Rdl.gs (C := C) y10_3) M4) (Rdl.mono (Rdl.own (C := .row w10 5 [iv (y10_2), v_c_Book_Gatherings, v_c_Items, y10_3.v, w10_2] :: ownL true w10_2 encI y10_4 :: .row b2 2 [iv (0), iv (0)] :: .row b1 3 [iv (c_Book_Signed), v_c_Book_Gatherings, v_c_Items] :: C) (p := 1) rfl) mem0) (List.mem_of_getElem? (i := 0) rfl) hr20) ?_;rintro _;refine zG (_::_::_::_::C) rfl (TO.eff0 rfl rfl (Eff.store_row (p := 2) (cv := [_, _]) (cells' := [_, _]) rfl rfl rfl rfl rfl rfl rfl rfl aG (by decide) rfl) ?_);rintro _ rfl;refine zG (_::_::_::_::C) rfl (zA R4 (zN (zR ?_)));cases h;exact ⟨rfl, _, rfl, [_, _], ⟨⟨_, rfl, LoadR.rows (p := 2) (c := [_, _]) rfl ⟨⟨_, rfl, rfl⟩, rfl, by decide⟩ rfl rfl rfl⟩, ⟨rfl, trivial⟩⟩, ⟨(), rfl, (pk [98,98,98,98] rfl)⟩⟩
theorem w_c_Range (c_Book_Signed : Int) (c_Book_Gatherings : GS encG) (c_Items : GS encIt) (r : Int × Int × Int) (h : P_c_Range c_Book_Signed c_Book_Gatherings.l c_Items.l = some r) : Comes (EL 5) 27 [.agg [iv (c_Book_Signed), c_Book_Gatherings.v, c_Items.v]] (.tuple [.agg [iv r.1, iv r.2.1], iv r.2.2]) :=
 TF.run (tf_c_Range (Nat.le_refl _) (RdT.gs c_Book_Gatherings) (RdT.gs c_Items) h) fun w => (.tuple (.cons (.agg (.cons .lit (.cons .lit .nil))) (.cons .lit .nil)))
end Go.Am.Ythckcbfijdambaa
end
section
namespace Go.Am
set_option linter.unusedVariables false
end Go.Am
end
section
namespace Go.Am.Ythckcbfijdambaa
open Go.Am Go.RowKit
set_option linter.unusedVariables false
set_option linter.unusedSimpArgs false
end Go.Am.Ythckcbfijdambaa
end
section
namespace Go.Am
set_option linter.unusedVariables false
noncomputable def P_r4_Check_L1 (c_Items : List Item) (all33 : List Leaf) : Int → Option (Stp Int (Ex Unit (Int × Int × Int))) := fun i =>
  if i < (c_Items.length : Int) then
    el c_Items i fun a49 =>
    andx (P_r4_item a49.could.l (all33.length : Int)) fun y52 =>
      if ¬ y52 = 0 then
        some (Stp.dn (Ex.rt (2, i, y52)))
      else
        chk (I64 (i + 1)) (
          some (Stp.ag (i + 1)))
  else
    some (Stp.dn (Ex.nx ()))
noncomputable def P_r4_Check_L2 (c_Items : List Item) : (Int × Int) → Option (Stp (Int × Int) (Ex Unit (Int × Int × Int))) := fun (doubts, i) =>
  if i < (c_Items.length : Int) then
    seqx (
      andx (
        el c_Items i fun a67 =>
        if (a67.could.l.length : Int) > 1 then
          chk (I64 (doubts + 1)) (
            some (doubts + 1))
        else
          some doubts) fun doubts_2 =>
        if doubts_2 > 3 then
          some (Ex.rt (Stp.dn (Ex.rt (3, i, 3))))
        else
          some (Ex.nx doubts_2)) fun doubts_2 =>
      chk (I64 (i + 1)) (
        some (Stp.ag (doubts_2, (i + 1))))
  else
    some (Stp.dn (Ex.nx ()))
noncomputable def P_r4_Check (c_Book_Signed : Int) (c_Book_Gatherings : List Gat) (c_Items : List Item) : Option (Int × Int × Int) :=
  andx (P_r1_Check c_Book_Signed c_Book_Gatherings) fun (part15, at_15, e15) =>
    andx (
      andx (
        if e15 = 0 then
          andx (P_r1_All c_Book_Signed c_Book_Gatherings) fun all24 =>
            some (decide ((all24.length : Int) > 120))
        else
          some false) fun x27 =>
        if x27 = true then
          some 3
        else
          some e15) fun e =>
      if ¬ e = 0 then
        some (1, 0, e)
      else
        andx (P_r1_All c_Book_Signed c_Book_Gatherings) fun all33 =>
          if (c_Items.length : Int) > 120 then
            some (2, 0, 3)
          else
            seqx (
              iter (P_r4_Check_L1 c_Items all33) 0) fun _ =>
              seqx (
                iter (P_r4_Check_L2 c_Items) (0, 0)) fun _ =>
                some (0, 0, 0)
end Go.Am
end
section
namespace Go.Am.Ythckcbfijdambaa
open Go.Am Go.RowKit
set_option linter.unusedVariables false
set_option linter.unusedSimpArgs false
set_option maxRecDepth 10000 in
theorem tf_r4_Check {k : Nat} (hk : 4 ≤ k) {C : List Thing} {c_Book_Signed : Int} {v_c_Book_Gatherings : AV} {c_Book_Gatherings : List Gat} {v_c_Items : AV} {c_Items : List Item} (ht_c_Book_Gatherings : RdT encG v_c_Book_Gatherings c_Book_Gatherings) (ht_c_Items : RdT encIt v_c_Items c_Items) {r : Int × Int × Int} (h : P_r4_Check c_Book_Signed c_Book_Gatherings c_Items = some r) :
  TF (EL k) 41 [.agg [iv (c_Book_Signed), v_c_Book_Gatherings, v_c_Items]] C (RepF (fun (w : Unit) => .tuple [iv r.1, iv r.2.1, iv r.2.2]) (fun (w : Unit) => C)) := by
 unfold P_r4_Check at h
 have h_c_Book_Gatherings : Rdl C encG v_c_Book_Gatherings c_Book_Gatherings := RdT.rdl ht_c_Book_Gatherings
 have h_c_Items : Rdl C encIt v_c_Items c_Items := RdT.rdl ht_c_Items;refine TF.enter (fn := Go.Proofs.Try.f41) rfl rfl rfl rfl rfl (zU rfl (zQ 3 [_,_,_] R7 (fun b1=>zA R4 (zA R4 (zA R4 (zN (zU rfl (zF 0 R6 (zV R3 (vW 0 [_,_] R5 R4) ?_)))))))));obtain ⟨⟨part15, at_15, e15⟩, hr15, h⟩ := andx_some h;dsimp only at h;obtain ⟨g, hgg, hrg⟩ := Rdl.reif (hs := .row b1 3 [iv (c_Book_Signed), v_c_Book_Gatherings, v_c_Items] :: C) h_c_Book_Gatherings M1 (ReifL.flat encG_tr);refine TO.call rfl rfl rfl rfl rfl (orcL rfl aD) (.cons (.agg (.cons .lit (.cons (hrg _) .nil))) .nil) (sem_of (w_r1_Check c_Book_Signed g _ (by try rw [hgg]; exact hr15))) (zM R4 (zX R5 (zX R5 (zX R5 (zA R4 (zA R4 (zA R4 (zN ?_))))))))
 show T _ _ _ _ _ _;apply T.joinA (r := r) (W := Unit) (fun j w => ⟨[], [(1, .ptr b1 0 3), (7, iv (j))], .row b1 3 [iv (c_Book_Signed), v_c_Book_Gatherings, v_c_Items] :: C⟩) h
 ·intro j h
  show T _ _ _ _ _ _;apply T.joinA (r := j) (W := Unit) (fun j w => ⟨[], [(1, .ptr b1 0 3), (7, iv (e15)), (27, bv j)], .row b1 3 [iv (c_Book_Signed), v_c_Book_Gatherings, v_c_Items] :: C⟩) h
  ·intro j h;refine zT rfl (zM R4 ?_);obtain ⟨c20, hc20⟩ := zY (e15 = 0);refine zV R3 (Val.eql hc20 rfl rfl) (zM R4 ?_);obtain ⟨rfl, hc20, h⟩ | ⟨rfl, hc20, h⟩ := zI hc20 h
   ·refine zF 0 R6 (zV R3 (vW 0 [_,_] R5 R4) ?_);obtain ⟨all24, hr24, h⟩ := andx_some h;obtain ⟨g_2, hgg_2, hrg_2⟩ := Rdl.reif (hs := .row b1 3 [iv (c_Book_Signed), v_c_Book_Gatherings, v_c_Items] :: C) h_c_Book_Gatherings M1 (ReifL.flat encG_tr);refine TO.call rfl rfl rfl rfl rfl (orcL rfl aD) (.cons (.agg (.cons .lit (.cons (hrg_2 _) .nil))) .nil) (sem_of (w_r1_All c_Book_Signed g_2 _ (by try rw [hgg_2]; exact hr24))) (zV R3 (Val.len_gs rfl rfl) ?_);obtain ⟨c26, hc26⟩ := zY ((all24.length : Int) > 120);refine zV R3 (Val.gtr hc26 rfl rfl) (zP R6 (zN ?_));subst hc26;cases h;exact ⟨rfl, (), (sb .refl)⟩
   refine zO R3 (zO R3 (zO R3 (zO R3 (zO R3 (zP R6 (zN ?_))))));cases h;exact ⟨rfl, (), (sb .refl)⟩
  ·rintro x27 _ h;obtain ⟨rfl, h⟩ | ⟨rfl, h⟩ := zZ h
   ·refine zC rfl (zT rfl (zA R4 (zN ?_)));cases h;exact ⟨rfl, (), (sb .refl)⟩
   refine zD rfl (zK ?_);cases h;exact ⟨rfl, (), (sb .refl)⟩
 ·rintro e _ h;refine zS (zU rfl (zM R4 ?_));obtain ⟨c29, hc29⟩ := zY (¬ e = 0);refine zV R3 (Val.neq hc29 rfl rfl) (zN ?_);obtain ⟨rfl, hc29, h⟩ | ⟨rfl, hc29, h⟩ := zI hc29 h
  ·refine zC rfl (zU rfl (zM R4 (zA R4 (zA R4 (zA R4 (zN (zR ?_)))))));cases h;exact ⟨rfl, _, rfl, ⟨(), rfl, (pk [98] rfl)⟩⟩
  refine zD rfl (zK (zU rfl (zF 0 R6 (zV R3 (vW 0 [_,_] R5 R4) ?_))));obtain ⟨all33, hr33, h⟩ := andx_some h;obtain ⟨g_2, hgg_2, hrg_2⟩ := Rdl.reif (hs := .row b1 3 [iv (c_Book_Signed), v_c_Book_Gatherings, v_c_Items] :: C) h_c_Book_Gatherings M1 (ReifL.flat encG_tr);refine TO.call rfl rfl rfl rfl rfl (orcL rfl aD) (.cons (.agg (.cons .lit (.cons (hrg_2 _) .nil))) .nil) (sem_of (w_r1_All c_Book_Signed g_2 _ (by try rw [hgg_2]; exact hr33))) (zV R3 (Val.len_gs rfl rfl) (zA R4 (zN (zS (zU rfl (zF 2 R6 (zL 0 R3 R6 (zV R3 (Val.len_l h_c_Items M1 rfl rfl) ?_))))))));obtain ⟨c38, hc38⟩ := zY ((c_Items.length : Int) > 120);refine zV R3 (Val.gtr hc38 rfl rfl) (zN ?_);obtain ⟨rfl, hc38, h⟩ | ⟨rfl, hc38, h⟩ := zI hc38 h
  ·refine zC rfl (zU rfl (zA R4 (zA R4 (zA R4 (zN (zR ?_))))));cases h;exact ⟨rfl, _, rfl, ⟨(), rfl, (pk [98] rfl)⟩⟩
  refine zD rfl (zK ?_)
  show T _ _ _ _ _ _;apply T.join (r := r) (W := Unit) (fun j w => ⟨[], [(1, .ptr b1 0 3)], .row b1 3 [iv (c_Book_Signed), v_c_Book_Gatherings, v_c_Items] :: C⟩) h
  ·intro j h;refine zU rfl (zA R4 (zN (zB ?_)))
   show T _ _ _ _ _ _;apply T.iter (r := j) (W := Unit) (fun j w => ⟨[], [(1, .ptr b1 0 3), (8, iv ((all33.length : Int))), (9, iv (j))], .row b1 3 [iv (c_Book_Signed), v_c_Book_Gatherings, v_c_Items] :: C⟩) (w0 := ()) h
   ·exact (sb .refl)
   rintro i _ a h;unfold P_r4_Check_L1 at h;refine zS (zU rfl (zM R4 (zF 2 R6 (zL 0 R3 R6 (zV R3 (Val.len_l h_c_Items M1 rfl rfl) ?_)))));obtain ⟨c43, hc43⟩ := zY (i < (c_Items.length : Int));refine zV R3 (Val.lss hc43 rfl rfl) (zN ?_);obtain ⟨rfl, hc43, h⟩ | ⟨rfl, hc43, h⟩ := zI hc43 h
   ·refine zC rfl (zK (zS (zB (zU rfl (zF 2 R6 (zL 0 R3 R6 (zM R4 ?_)))))));obtain ⟨a49, hia49, ea49, h⟩ := el_some h;refine TO.fact (rdl_at h_c_Items M1 hia49 ea49) (fun hp=>?_);obtain ⟨pa49, hpa49, hva49⟩ := hp;refine zV R3 (hva49 ⟨rfl, rfl⟩ rfl rfl) (zV R3 (Val.load_es (c := [_]) hpa49 M1 ⟨⟨_, rfl, rfl⟩, rfl, by decide⟩ rfl rfl rfl) (zM R4 ?_));obtain ⟨y52, hr52, h⟩ := andx_some h;refine TO.callT (first := []) (cap := []) (vs := [.agg [a49.could.v], iv ((all33.length : Int))]) rfl rfl rfl rfl rfl rfl (orcN rfl) (tf_r4_item aD (Rdl.mono (Rdl.gs (C := C) a49.could) M1) hr52) ?_;rintro _;refine zG (_::C) rfl (zA R4 (zN (zU rfl (zM R4 ?_))));obtain ⟨c54, hc54⟩ := zY (¬ y52 = 0);refine zV R3 (Val.neq hc54 rfl rfl) (zN ?_);obtain ⟨rfl, hc54, h⟩ | ⟨rfl, hc54, h⟩ := zI hc54 h
    ·refine zC rfl (zU rfl (zM R4 (zM R4 (zA R4 (zA R4 (zA R4 (zN (zR ?_))))))));cases h;exact ⟨ret_ne, ⟨ret_ne, ⟨rfl, _, rfl, ⟨(), rfl, (pk [98] rfl)⟩⟩⟩⟩
    refine zD rfl (zK (zT rfl (zM R4 ?_)));obtain ⟨hk45, h⟩ := chk_some h;refine zV R3 (Val.add rfl rfl hk45) (zA R4 (zN ?_));cases h;exact ⟨rfl, (), (sb .refl)⟩
   refine zD rfl (zE ?_);cases h;exact ⟨ex_ne, ⟨rfl, (), (sb .refl)⟩⟩
  ·rintro _ _ h;refine zU rfl (zA R4 (zN ?_))
   show T _ _ _ _ _ _;apply T.join (r := r) (W := Unit) (fun j w => ⟨[], [], .row b1 3 [iv (c_Book_Signed), v_c_Book_Gatherings, v_c_Items] :: C⟩) h
   ·intro j h;refine zU rfl (zA R4 (zN (zB ?_)))
    show T _ _ _ _ _ _;apply T.iter (r := j) (W := Unit) (fun j w => ⟨[], [(1, .ptr b1 0 3), (10, iv (j.1)), (11, iv (j.2))], .row b1 3 [iv (c_Book_Signed), v_c_Book_Gatherings, v_c_Items] :: C⟩) (w0 := ()) h
    ·exact (sb .refl)
    rintro ⟨doubts, i⟩ _ a h;unfold P_r4_Check_L2 at h;dsimp only at h;dsimp only;refine zS (zU rfl (zM R4 (zF 2 R6 (zL 0 R3 R6 (zV R3 (Val.len_l h_c_Items M1 rfl rfl) ?_)))));obtain ⟨c61, hc61⟩ := zY (i < (c_Items.length : Int));refine zV R3 (Val.lss hc61 rfl rfl) (zN ?_);obtain ⟨rfl, hc61, h⟩ | ⟨rfl, hc61, h⟩ := zI hc61 h
    ·refine zC rfl (zK ?_)
     show T _ _ _ _ _ _;apply T.join (r := a) (W := Unit) (fun j w => ⟨[], [(1, .ptr b1 0 3), (10, iv (j)), (11, iv (i))], .row b1 3 [iv (c_Book_Signed), v_c_Book_Gatherings, v_c_Items] :: C⟩) h
     ·intro j h;refine zB ?_
      show T _ _ _ _ _ _;apply T.joinA (r := j) (W := Unit) (fun j w => ⟨[], [(1, .ptr b1 0 3), (10, iv (j)), (11, iv (i))], .row b1 3 [iv (c_Book_Signed), v_c_Book_Gatherings, v_c_Items] :: C⟩) h
      ·intro j h;refine zU rfl (zF 2 R6 (zL 0 R3 R6 (zM R4 ?_)));obtain ⟨a67, hia67, ea67, h⟩ := el_some h;refine TO.fact (rdl_at h_c_Items M1 hia67 ea67) (fun hp=>?_);obtain ⟨pa67, hpa67, hva67⟩ := hp;refine zV R3 (hva67 ⟨rfl, rfl⟩ rfl rfl) (zV R3 (Val.faddr_e (fo := 0) hpa67 rfl rfl rfl) (zV R3 (Val.load_e (PtE.add hpa67 (by decide)) M1 ⟨_, rfl, rfl⟩ rfl rfl) (zV R3 (Val.len_gs rfl rfl) ?_)));obtain ⟨c71, hc71⟩ := zY ((a67.could.l.length : Int) > 1);refine zV R3 (Val.gtr hc71 rfl rfl) (zN ?_);obtain ⟨rfl, hc71, h⟩ | ⟨rfl, hc71, h⟩ := zI hc71 h
       ·refine zC rfl (zT rfl (zM R4 ?_));obtain ⟨hk73, h⟩ := chk_some h;refine zV R3 (Val.add rfl rfl hk73) (zA R4 (zN ?_));cases h;exact ⟨rfl, (), (sb .refl)⟩
       refine zD rfl (zK ?_);cases h;exact ⟨rfl, (), (sb .refl)⟩
      ·rintro doubts_2 _ h;refine zU rfl (zM R4 ?_);obtain ⟨c75, hc75⟩ := zY (doubts_2 > 3);refine zV R3 (Val.gtr hc75 rfl rfl) (zN ?_);obtain ⟨rfl, hc75, h⟩ | ⟨rfl, hc75, h⟩ := zI hc75 h
       ·refine zC rfl (zU rfl (zM R4 (zA R4 (zA R4 (zA R4 (zN (zR ?_)))))));cases h;exact ⟨ret_ne, ⟨ret_ne, ⟨ret_ne, ⟨rfl, _, rfl, ⟨(), rfl, (pk [98] rfl)⟩⟩⟩⟩⟩
       refine zD rfl (zK ?_);cases h;exact ⟨rfl, (), (sb .refl)⟩
     ·rintro doubts_2 _ h;refine zT rfl (zM R4 ?_);obtain ⟨hk63, h⟩ := chk_some h;refine zV R3 (Val.add rfl rfl hk63) (zA R4 (zN ?_));cases h;exact ⟨rfl, (), (sb .refl)⟩
    refine zD rfl (zE ?_);cases h;exact ⟨ex_ne, ⟨rfl, (), (sb .refl)⟩⟩
   ·rintro _ _ h;refine zU rfl (zA R4 (zA R4 (zA R4 (zN (zR ?_)))));cases h;exact ⟨rfl, _, rfl, ⟨(), rfl, (pk [98] rfl)⟩⟩
theorem w_r4_Check (c_Book_Signed : Int) (c_Book_Gatherings : GS encG) (c_Items : GS encIt) (r : Int × Int × Int) (h : P_r4_Check c_Book_Signed c_Book_Gatherings.l c_Items.l = some r) : Comes (EL 4) 41 [.agg [iv (c_Book_Signed), c_Book_Gatherings.v, c_Items.v]] (.tuple [iv r.1, iv r.2.1, iv r.2.2]) :=
 TF.run (tf_r4_Check (Nat.le_refl _) (RdT.gs c_Book_Gatherings) (RdT.gs c_Items) h) fun w => (.tuple (.cons .lit (.cons .lit (.cons .lit .nil))))
end Go.Am.Ythckcbfijdambaa
end
section
namespace Go.Am
set_option linter.unusedVariables false
end Go.Am
end
section
namespace Go.Am.Ythckcbfijdambaa
open Go.Am Go.RowKit
set_option linter.unusedVariables false
set_option linter.unusedSimpArgs false
end Go.Am.Ythckcbfijdambaa
end
section
namespace Go.Am
set_option linter.unusedVariables false
end Go.Am
end
section
namespace Go.Am.Ythckcbfijdambaa
open Go.Am Go.RowKit
set_option linter.unusedVariables false
set_option linter.unusedSimpArgs false
end Go.Am.Ythckcbfijdambaa
end
section
namespace Go.Am
set_option linter.unusedVariables false
noncomputable def P_l_span (lo : Int) (hi : Int) : Option (Int × Int) :=
 some (lo, hi)
noncomputable def P_l_valid (c_Book_Signed : Int) (c_Book_Gatherings : List Gat) (c_Items : List Item) : Option Bool :=
 andx (P_r4_Check c_Book_Signed c_Book_Gatherings c_Items) fun (y8, y8_2, y8_3) =>
  some (decide (y8_3 = 0))
noncomputable def P_l_whole (b_Signed : Int) (b_Gatherings : List Gat) : Option Bool :=
 andx (P_l_valid b_Signed b_Gatherings []) fun y5 =>
  some y5
noncomputable def P_l_full_L1 (all7 : List Leaf) : (Int × (List (List Int))) → Option (Stp (Int × (List (List Int))) (List (List Int))) := fun (i, out) =>
  if i < (all7.length : Int) then
    chk (out.length + [[i]].length < 1000000000) (
      chk (I64 (i + 1)) (
        some (Stp.ag ((i + 1), out ++ [[i]]))))
  else
    some (Stp.dn out)
noncomputable def P_l_full (b_Signed : Int) (b_Gatherings : List Gat) : Option (List (List Int)) :=
  andx (P_r1_All b_Signed b_Gatherings) fun all7 =>
    andx (
      iter (P_l_full_L1 all7) (0, ([] : List (List Int)))) fun out =>
      some out
noncomputable def P_l_without_L1 (l : List Item) (a_ : Int) (b : Int) : (Int × (List Item)) → Option (Stp (Int × (List Item)) (List Item)) := fun (i, out) =>
  if i < (l.length : Int) then
    andx (
      andx (
        el l i fun a17 =>
        if ¬ (a17.could.l.length : Int) = 1 then
          some true
        else
          el l i fun a25 =>
          el a25.could.l 0 fun a28 =>
          if ¬ a28 = a_ then
            el l i fun a35 =>
            el a35.could.l 0 fun a38 =>
            some (decide (¬ a38 = b))
          else
            some false) fun x43 =>
        if x43 = true then
          el l i fun a47 =>
          chk (out.length + [a47].length < 1000000000) (
            some (out ++ [a47]))
        else
          some out) fun out_2 =>
      chk (I64 (i + 1)) (
        some (Stp.ag ((i + 1), out_2)))
  else
    some (Stp.dn out)
noncomputable def P_l_without (l : List Item) (a_ : Int) (b : Int) : Option (List Item) :=
  andx (
    iter (P_l_without_L1 l a_ b) (0, [])) fun out =>
    some out
noncomputable def P_l_with (l : List Item) (at_ : Int) (x : Item) : Option (List Item) :=
  chk (I64 ((l.length : Int) + 1)) (
    chk (0 < ((l.length : Int) + 1)) (
      chk (0 ≤ (0 : Int) ∧ (0 : Int) ≤ (Int.tmod at_ ((l.length : Int) + 1)) ∧ (Int.tmod at_ ((l.length : Int) + 1)) ≤ (l.length : Int)) (
        chk (0 ≤ (Int.tmod at_ ((l.length : Int) + 1)) ∧ (Int.tmod at_ ((l.length : Int) + 1)) ≤ (l.length : Int) ∧ (l.length : Int) ≤ (l.length : Int)) (
          chk (([] : List Item).length + (List.take ((Int.tmod at_ ((l.length : Int) + 1)) - (0 : Int)).toNat (List.drop ((0 : Int) : Int).toNat l)).length < 1000000000) (
            chk ((([] : List Item) ++ (List.take ((Int.tmod at_ ((l.length : Int) + 1)) - (0 : Int)).toNat (List.drop ((0 : Int) : Int).toNat l))).length + [(⟨x.could⟩ : Item)].length < 1000000000) (
              chk (((([] : List Item) ++ (List.take ((Int.tmod at_ ((l.length : Int) + 1)) - (0 : Int)).toNat (List.drop ((0 : Int) : Int).toNat l))) ++ [(⟨x.could⟩ : Item)]).length + (List.take ((l.length : Int) - (Int.tmod at_ ((l.length : Int) + 1))).toNat (List.drop ((Int.tmod at_ ((l.length : Int) + 1)) : Int).toNat l)).length < 1000000000) (
                some (((([] : List Item) ++ (List.take ((Int.tmod at_ ((l.length : Int) + 1)) - (0 : Int)).toNat (List.drop ((0 : Int) : Int).toNat l))) ++ [(⟨x.could⟩ : Item)]) ++ (List.take ((l.length : Int) - (Int.tmod at_ ((l.length : Int) + 1))).toNat (List.drop ((Int.tmod at_ ((l.length : Int) + 1)) : Int).toNat l))))))))))
noncomputable def P_l_same_L1 (a_ : List Item) (b : List Item) : Int → Option (Stp Int (Ex Unit Bool)) := fun i =>
  if i < (a_.length : Int) then
    el a_ i fun a14 =>
    el a14.could.l 0 fun a17 =>
    el b i fun a21 =>
    el a21.could.l 0 fun a24 =>
    if ¬ a17 = a24 then
      some (Stp.dn (Ex.rt false))
    else
      chk (I64 (i + 1)) (
        some (Stp.ag (i + 1)))
  else
    some (Stp.dn (Ex.nx ()))
noncomputable def P_l_same (a_ : List Item) (b : List Item) : Option Bool :=
  seqx (
    iter (P_l_same_L1 a_ b) 0) fun _ =>
    some (decide ((a_.length : Int) = (b.length : Int)))
end Go.Am
end
section
namespace Go.Am.Ythckcbfijdambaa
open Go.Am Go.RowKit
set_option linter.unusedVariables false
set_option linter.unusedSimpArgs false
set_option maxRecDepth 10000 in
theorem tf_l_span {k : Nat} (hk : 0 ≤ k) {C : List Thing} {lo : Int} {hi : Int} {r : Int × Int} (h : P_l_span lo hi = some r) :
  TF (EL k) 28 [iv (lo), iv (hi)] C (RepF (fun (w : Unit) => .agg [iv r.1, iv r.2]) (fun (w : Unit) => C)) := by
 unfold P_l_span at h;refine TF.enterG (fn := Go.Proofs.Try.f28) rfl rfl rfl rfl rfl (zU rfl (zJ 2 [_,_] R7 (fun b4=>zN (zU rfl (zM R4 (zM R4 (zV R3 (Val.buildC (cs := [_, _]) (vs := [(_, _), (_, _)]) (ws := [(_, [_]), (_, [_])]) rfl rfl (CellsL.cons rfl (CellsL.cons rfl CellsL.nil)) rfl) (TO.eff0 rfl rfl (Eff.store_row (p := 0) (cv := [_, _]) (cells' := [_, _]) rfl rfl rfl rfl rfl rfl rfl rfl aG (by decide) rfl) ?_))))))));rintro _ rfl;refine zG (_::C) rfl (zN (zR ?_));cases h;exact ⟨rfl, _, rfl, [_], ⟨⟨_, rfl, LoadR.rows (p := 0) (c := [_, _]) rfl ⟨⟨_, rfl, rfl⟩, rfl, by decide⟩ rfl rfl rfl⟩, trivial⟩, ⟨(), rfl, (pk [98] rfl)⟩⟩
set_option maxRecDepth 10000 in
theorem tf_l_valid {k : Nat} (hk : 5 ≤ k) {C : List Thing} {c_Book_Signed : Int} {v_c_Book_Gatherings : AV} {c_Book_Gatherings : List Gat} {v_c_Items : AV} {c_Items : List Item} (ht_c_Book_Gatherings : RdT encG v_c_Book_Gatherings c_Book_Gatherings) (ht_c_Items : RdT encIt v_c_Items c_Items) {r : Bool} (h : P_l_valid c_Book_Signed c_Book_Gatherings c_Items = some r) :
  TF (EL k) 29 [.agg [iv (c_Book_Signed), v_c_Book_Gatherings, v_c_Items]] C (RepF (fun (w : Unit) => bv r) (fun (w : Unit) => C)) := by
 unfold P_l_valid at h
 have h_c_Book_Gatherings : Rdl C encG v_c_Book_Gatherings c_Book_Gatherings := RdT.rdl ht_c_Book_Gatherings
 have h_c_Items : Rdl C encIt v_c_Items c_Items := RdT.rdl ht_c_Items;refine TF.enter (fn := Go.Proofs.Try.f29) rfl rfl rfl rfl rfl (zU rfl (zQ 3 [_,_,_] R7 (fun b1=>zA R4 (zN (zU rfl (zV R3 (vW 0 [_,_,_] R5 R4) ?_))))));obtain ⟨⟨y8, y8_2, y8_3⟩, hr8, h⟩ := andx_some h;dsimp only at h;obtain ⟨g, hgg, hrg⟩ := Rdl.reif (hs := .row b1 3 [iv (c_Book_Signed), v_c_Book_Gatherings, v_c_Items] :: C) h_c_Book_Gatherings M1 (ReifL.flat encG_tr);obtain ⟨g_2, hgg_2, hrg_2⟩ := Rdl.reif (hs := .row b1 3 [iv (c_Book_Signed), v_c_Book_Gatherings, v_c_Items] :: C) h_c_Items M1 (ReifL.flat encIt_tr);refine TO.call rfl rfl rfl rfl rfl (orcL rfl aD) (.cons (.agg (.cons .lit (.cons (hrg _) (.cons (hrg_2 _) .nil)))) .nil) (sem_of (w_r4_Check c_Book_Signed g g_2 _ (by try rw [hgg]; try rw [hgg_2]; exact hr8))) (zM R4 (zX R5 (zX R5 (zX R5 (zA R4 (zA R4 (zA R4 (zN (zU rfl (zM R4 ?_))))))))));obtain ⟨c13, hc13⟩ := zY (y8_3 = 0);refine zV R3 (Val.eql hc13 rfl rfl) (zA R4 (zN (zR ?_)));subst hc13;cases h;exact ⟨rfl, _, rfl, ⟨(), rfl, (pk [98] rfl)⟩⟩
theorem w_l_valid (c_Book_Signed : Int) (c_Book_Gatherings : GS encG) (c_Items : GS encIt) (r : Bool) (h : P_l_valid c_Book_Signed c_Book_Gatherings.l c_Items.l = some r) : Comes (EL 5) 29 [.agg [iv (c_Book_Signed), c_Book_Gatherings.v, c_Items.v]] (bv r) :=
 TF.run (tf_l_valid (Nat.le_refl _) (RdT.gs c_Book_Gatherings) (RdT.gs c_Items) h) fun w => .lit
set_option maxRecDepth 10000 in
theorem tf_l_whole {k : Nat} (hk : 6 ≤ k) {C : List Thing} {b_Signed : Int} {v_b_Gatherings : AV} {b_Gatherings : List Gat} (ht_b_Gatherings : RdT encG v_b_Gatherings b_Gatherings) {r : Bool} (h : P_l_whole b_Signed b_Gatherings = some r) :
  TF (EL k) 20 [.agg [iv (b_Signed), v_b_Gatherings]] C (RepF (fun (w : Unit) => bv r) (fun (w : Unit) => C)) := by
 unfold P_l_whole at h
 have h_b_Gatherings : Rdl C encG v_b_Gatherings b_Gatherings := RdT.rdl ht_b_Gatherings;refine TF.enter (fn := Go.Proofs.Try.f20) rfl rfl rfl rfl rfl (zU rfl (zQ 2 [_,_] R7 (fun b1=>zA R4 (zN (zU rfl (zV R3 (vW 0 [_,_] R5 R4) (zV R3 (Val.buildC (cs := [_, _, _]) (vs := [(_, _)]) (ws := [(_, [_, _])]) rfl rfl (CellsL.cons rfl CellsL.nil) rfl) ?_)))))));obtain ⟨y5, hr5, h⟩ := andx_some h;obtain ⟨g, hgg, hrg⟩ := Rdl.reif (hs := .row b1 2 [iv (b_Signed), v_b_Gatherings] :: C) h_b_Gatherings M1 (ReifL.flat encG_tr);refine TO.call rfl rfl rfl rfl rfl (orcL rfl aD) (.cons (.agg (.cons .lit (.cons (hrg _) (.cons .lit .nil)))) .nil) (sem_of (w_l_valid b_Signed g (GSo true encIt []) _ (by try rw [hgg]; exact hr5))) (zA R4 (zN (zR ?_)));cases h;exact ⟨rfl, _, rfl, ⟨(), rfl, (pk [98] rfl)⟩⟩
theorem w_l_whole (b_Signed : Int) (b_Gatherings : GS encG) (r : Bool) (h : P_l_whole b_Signed b_Gatherings.l = some r) : Comes (EL 6) 20 [.agg [iv (b_Signed), b_Gatherings.v]] (bv r) :=
 TF.run (tf_l_whole (Nat.le_refl _) (RdT.gs b_Gatherings) h) fun w => .lit
set_option maxRecDepth 10000 in
theorem tf_l_full {k : Nat} (hk : 2 ≤ k) {C : List Thing} {b_Signed : Int} {v_b_Gatherings : AV} {b_Gatherings : List Gat} (ht_b_Gatherings : RdT encG v_b_Gatherings b_Gatherings) {r : (List (List Int))} (h : P_l_full b_Signed b_Gatherings = some r) :
  TF (EL k) 21 [.agg [iv (b_Signed), v_b_Gatherings]] C (RepF (fun (w : AV × (List AV)) => w.1) (fun (w : AV × (List AV)) => nestH true w.1 r w.2 :: (seg encI w.2 r ++ C))) := by
 unfold P_l_full at h
 have h_b_Gatherings : Rdl C encG v_b_Gatherings b_Gatherings := RdT.rdl ht_b_Gatherings;refine TF.enter (fn := Go.Proofs.Try.f21) rfl rfl rfl rfl rfl (zU rfl (zQ 2 [_,_] R7 (fun b1=>zA R4 (zN (zU rfl (zA R4 (zN (zU rfl (zV R3 (vW 0 [_,_] R5 R4) ?_)))))))));obtain ⟨all7, hr7, h⟩ := andx_some h;obtain ⟨g, hgg, hrg⟩ := Rdl.reif (hs := .row b1 2 [iv (b_Signed), v_b_Gatherings] :: C) h_b_Gatherings M1 (ReifL.flat encG_tr);refine TO.call rfl rfl rfl rfl rfl (orcL rfl aD) (.cons (.agg (.cons .lit (.cons (hrg _) .nil))) .nil) (sem_of (w_r1_All b_Signed g _ (by try rw [hgg]; exact hr7))) (zV R3 (Val.len_gs rfl rfl) (zA R4 (zN ?_)))
 show T _ _ _ _ _ _;apply T.joinA (r := r) (W := AV × (List AV)) (fun j w => ⟨[], [(3, w.1)], nestH true w.1 j w.2 :: (seg encI w.2 j ++ C)⟩) h
 ·intro j h;refine zU rfl (zA R4 (zN (zB (T.nilown (u := 1) (T.things (hs' := nestH true nilS ([] : List (List Int)) [] :: .row b1 2 [iv (b_Signed), v_b_Gatherings] :: (seg encI [] ([] : List (List Int)) ++ C)) rfl ?_)))))
  show T _ _ _ _ _ _;apply T.iter (r := j) (W := AV × (List AV)) (fun j w => ⟨[], [(3, w.1), (4, iv ((all7.length : Int))), (5, iv (j.1))], nestH true w.1 j.2 w.2 :: (seg encI w.2 j.2 ++ C)⟩) (w0 := (nilS, [])) h
  ·exact (sb (pk [0,98] rfl))
  rintro ⟨i, out⟩ ⟨vn2, wsn2⟩ a h;unfold P_l_full_L1 at h;dsimp only at h;dsimp only;refine zS (zU rfl (zM R4 (zM R4 ?_)));obtain ⟨c11, hc11⟩ := zY (i < (all7.length : Int));refine zV R3 (Val.lss hc11 rfl rfl) (zN ?_);obtain ⟨rfl, hc11, h⟩ | ⟨rfl, hc11, h⟩ := zI hc11 h
  ·refine zC rfl (zK (zS (zB (zT rfl (zM R4 (zM R4 (TO.build1 (en := encI) (a := i) rfl rfl rfl ⟨rfl, rfl⟩ ⟨_, rfl, rfl⟩ (by decide) (by decide) rfl rfl (fun v16=>TO.fact (own_cellS (p := 0) rfl) (fun hot3=>zV R3 (Val.buildC (cs := [_]) (vs := [(_, _)]) (ws := [(_, [_])]) rfl rfl (CellsL.cons hot3.1 CellsL.nil) rfl) (TO.less (Less.ownTrue (p := 0) rfl (.inr (by simp))) (zG (_::_::(seg encI wsn2 out ++ C)) rfl (TO.fact (own_cellS (p := 0) rfl) (fun hot3=>TO.eff rfl rfl rfl (Eff.new (New.buildSlice (en := encAV) (l := [v16]) (vs := [(_, _)]) (ws := [(_, [_])]) ⟨rfl, rfl⟩ rfl rfl rfl rfl (CellsL.cons rfl CellsL.nil) rfl rfl)) ?_)))))))))))));rintro _ _ ⟨v18_2, rfl, rfl⟩;refine TO.less (Less.rowOwn (en := encAV) (l := [v16]) (p := 0) rfl) (zG (_::_::_::(seg encI wsn2 out ++ C)) rfl (TO.less (Pk.less (Pk.pick (p := 0) rfl (Pk.pick (p := 1) rfl (Pk.pick (p := 0) rfl Pk.refl)))) (zG (_::_::(seg encI [v16] [[i]] ++ (seg encI wsn2 out ++ C))) rfl ?_)));obtain ⟨hk19, h⟩ := chk_some h;refine TO.fact (nest_len (p := 1) rfl) (fun hl19=>TO.fact (nest_len (p := 0) rfl) (fun hm19=>TO.eff rfl rfl rfl (Eff.append_nest (b := 24) (ls := out) (ls2 := [[i]]) (p := 1) (q := 0) ⟨rfl, rfl, rfl, ⟨_, rfl, rfl⟩, by decide, by decide⟩ rfl rfl rfl rfl rfl rfl (seg_ones (en := encI) hm19 (fun x hx => M2 x (List.mem_append_left _ hx))) (by decide) hk19) ?_));rintro v19 _ rfl;refine zG ([nestH false (.slice v18_2 0 (List.flatMap encAV.f [v16]).length true (List.length [v16]) (List.length [v16])) [[i]] [v16], nestH true v19 (out ++ [[i]]) (wsn2 ++ [v16])] ++ (seg encI [v16] [[i]] ++ (seg encI wsn2 out ++ C))) rfl (TO.less (Less.cat [nestH false (.slice v18_2 0 (List.flatMap encAV.f [v16]).length true (List.length [v16]) (List.length [v16])) [[i]] [v16], nestH true v19 (out ++ [[i]]) (wsn2 ++ [v16])] hl19) (zG (_::_::(seg encI (wsn2 ++ [v16]) (out ++ [[i]]) ++ C)) rfl (zA R4 (zN (zT rfl (zM R4 ?_))))));obtain ⟨hk13, h⟩ := chk_some h;refine zV R3 (Val.add rfl rfl hk13) (zA R4 (zN ?_));cases h;exact ⟨rfl, (v19, wsn2 ++ [v16]), (sb (pk [1,98] rfl))⟩
  refine zD rfl (zE ?_);cases h;exact ⟨ex_ne, ⟨rfl, (vn2, wsn2), (sb .refl)⟩⟩
 ·rintro out ⟨vn2, wsn2⟩ h;dsimp only;refine zU rfl (zM R4 (zA R4 (zN (zR ?_))));cases h;exact ⟨rfl, _, rfl, ⟨(vn2, wsn2), rfl, .refl⟩⟩
theorem w_l_full (b_Signed : Int) (b_Gatherings : GS encG) (r : (List (List Int))) (h : P_l_full b_Signed b_Gatherings.l = some r) : Comes (EL 2) 21 [.agg [iv (b_Signed), b_Gatherings.v]] ((GSo true encIt (List.map (fun x => (⟨GSo true encI x⟩ : Item)) r)).v) :=
 TF.run (tf_l_full (Nat.le_refl _) (RdT.gs b_Gatherings) h) fun w => (.nestIt (p := 0) rfl (fun x hx => M1 x (List.mem_append_left _ hx)))
set_option maxRecDepth 10000 in
theorem tf_l_without {k : Nat} (hk : 0 ≤ k) {C : List Thing} {v_l : AV} {l : List Item} {a_ : Int} {b : Int} (ht_l : RdT encIt v_l l) {r : (List Item)} (h : P_l_without l a_ b = some r) :
  TF (EL k) 24 [v_l, iv (a_), iv (b)] C (RepF (fun (w : AV) => w) (fun (w : AV) => ownL true w encIt r :: C)) := by
 unfold P_l_without at h
 have h_l : Rdl C encIt v_l l := RdT.rdl ht_l;refine TF.enter (fn := Go.Proofs.Try.f24) rfl rfl rfl rfl rfl (zU rfl (zA R4 (zN (zU rfl (zA R4 (zN ?_))))))
 show T _ _ _ _ _ _;apply T.joinA (r := r) (W := AV) (fun j w => ⟨[], [(7, w)], ownL true w encIt j :: C⟩) h
 ·intro j h;refine zU rfl (zA R4 (zN (zB (T.nilown (u := encIt.u) ?_))))
  show T _ _ _ _ _ _;apply T.iter (r := j) (W := AV) (fun j w => ⟨[], [(0, v_l), (1, iv (a_)), (2, iv (b)), (7, w), (8, iv (j.1))], ownL true w encIt j.2 :: C⟩) (w0 := nilS) h
  ·exact (sb .refl)
  rintro ⟨i, out⟩ v1 a h;unfold P_l_without_L1 at h;dsimp only at h;dsimp only;refine zS (zU rfl (zM R4 (zM R4 (zV R3 (Val.len_l h_l M1 rfl rfl) ?_))));obtain ⟨c12, hc12⟩ := zY (i < (l.length : Int));refine zV R3 (Val.lss hc12 rfl rfl) (zN ?_);obtain ⟨rfl, hc12, h⟩ | ⟨rfl, hc12, h⟩ := zI hc12 h
  ·refine zC rfl (zK ?_)
   show T _ _ _ _ _ _;apply T.joinA (r := a) (W := AV) (fun j w => ⟨[], [(0, v_l), (1, iv (a_)), (2, iv (b)), (7, w), (8, iv (i))], ownL true w encIt j :: C⟩) h
   ·intro j h;refine zB ?_
    show T _ _ _ _ _ _;apply T.joinA (r := j) (W := Unit) (fun j w => ⟨[], [(0, v_l), (1, iv (a_)), (2, iv (b)), (7, v1), (8, iv (i)), (43, bv j)], ownL true v1 encIt out :: C⟩) h
    ·intro j h;refine zT rfl (zM R4 (zM R4 ?_));obtain ⟨a17, hia17, ea17, h⟩ := el_some h;refine TO.fact (rdl_at h_l M1 hia17 ea17) (fun hp=>?_);obtain ⟨pa17, hpa17, hva17⟩ := hp;refine zV R3 (hva17 ⟨rfl, rfl⟩ rfl rfl) (zV R3 (Val.faddr_e (fo := 0) hpa17 rfl rfl rfl) (zV R3 (Val.load_e (PtE.add hpa17 (by decide)) M1 ⟨_, rfl, rfl⟩ rfl rfl) (zV R3 (Val.len_gs rfl rfl) ?_)));obtain ⟨c21, hc21⟩ := zY (¬ (a17.could.l.length : Int) = 1);refine zV R3 (Val.neq hc21 rfl rfl) (zM R4 ?_);obtain ⟨rfl, hc21, h⟩ | ⟨rfl, hc21, h⟩ := zI hc21 h
     ·refine zO R3 (zO R3 (zO R3 (zO R3 (zO R3 (zO R3 (zO R3 (zO R3 (zO R3 (zO R3 (zO R3 (zO R3 (zO R3 (zO R3 (zO R3 (zO R3 (zO R3 (zO R3 (zO R3 (zO R3 (zP R6 (zN ?_)))))))))))))))))))));cases h;exact ⟨rfl, (), (sb .refl)⟩
     refine zM R4 (zM R4 ?_);obtain ⟨a25, hia25, ea25, h⟩ := el_some h;refine TO.fact (rdl_at h_l M1 hia25 ea25) (fun hp=>?_);obtain ⟨pa25, hpa25, hva25⟩ := hp;refine zV R3 (hva25 ⟨rfl, rfl⟩ rfl rfl) (zV R3 (Val.faddr_e (fo := 0) hpa25 rfl rfl rfl) (zV R3 (Val.load_e (PtE.add hpa25 (by decide)) M1 ⟨_, rfl, rfl⟩ rfl rfl) ?_));obtain ⟨a28, hia28, ea28, h⟩ := el_some h;refine TO.fact (rdl_at (Rdl.gs (C := C) a25.could) M1 hia28 ea28) (fun hp=>?_);obtain ⟨pa28, hpa28, hva28⟩ := hp;refine zV R3 (hva28 ⟨rfl, rfl⟩ rfl rfl) (zV R3 (Val.load_e hpa28 M1 ⟨_, rfl, rfl⟩ rfl rfl) (zM R4 ?_));obtain ⟨c31, hc31⟩ := zY (¬ a28 = a_);refine zV R3 (Val.neq hc31 rfl rfl) (zM R4 ?_);obtain ⟨rfl, hc31, h⟩ | ⟨rfl, hc31, h⟩ := zI hc31 h
     ·refine zM R4 (zM R4 ?_);obtain ⟨a35, hia35, ea35, h⟩ := el_some h;refine TO.fact (rdl_at h_l M1 hia35 ea35) (fun hp=>?_);obtain ⟨pa35, hpa35, hva35⟩ := hp;refine zV R3 (hva35 ⟨rfl, rfl⟩ rfl rfl) (zV R3 (Val.faddr_e (fo := 0) hpa35 rfl rfl rfl) (zV R3 (Val.load_e (PtE.add hpa35 (by decide)) M1 ⟨_, rfl, rfl⟩ rfl rfl) ?_));obtain ⟨a38, hia38, ea38, h⟩ := el_some h;refine TO.fact (rdl_at (Rdl.gs (C := C) a35.could) M1 hia38 ea38) (fun hp=>?_);obtain ⟨pa38, hpa38, hva38⟩ := hp;refine zV R3 (hva38 ⟨rfl, rfl⟩ rfl rfl) (zV R3 (Val.load_e hpa38 M1 ⟨_, rfl, rfl⟩ rfl rfl) (zM R4 ?_));obtain ⟨c41, hc41⟩ := zY (¬ a38 = b);refine zV R3 (Val.neq hc41 rfl rfl) (zP R6 (zP R6 (zN ?_)));subst hc41;cases h;exact ⟨rfl, (), (sb .refl)⟩
     refine zO R3 (zO R3 (zO R3 (zO R3 (zO R3 (zO R3 (zO R3 (zO R3 (zO R3 (zP R6 (zP R6 (zN ?_)))))))))));cases h;exact ⟨rfl, (), (sb .refl)⟩
    ·rintro x43 _ h;obtain ⟨rfl, h⟩ | ⟨rfl, h⟩ := zZ h
     ·refine zC rfl (zT rfl (zM R4 (zM R4 (zM R4 ?_))));obtain ⟨a47, hia47, ea47, h⟩ := el_some h;refine TO.fact (rdl_at h_l M1 hia47 ea47) (fun hp=>?_);obtain ⟨pa47, hpa47, hva47⟩ := hp;refine zV R3 (hva47 ⟨rfl, rfl⟩ rfl rfl) (zV R3 (Val.load_es (c := [_]) hpa47 M1 ⟨⟨_, rfl, rfl⟩, rfl, by decide⟩ rfl rfl rfl) (TO.build1 (en := encIt) (a := a47) rfl rfl rfl ⟨rfl, rfl⟩ ⟨_, rfl, rfl⟩ (by decide) (by decide) rfl rfl (fun v49=>?_)));obtain ⟨hk50, h⟩ := chk_some h;refine TO.eff rfl rfl rfl (Eff.append_own (b := 24) (en := encIt) (l := out) (l2 := [a47]) (p := 1) (q := 0) ⟨rfl, rfl, rfl, ⟨_, rfl, rfl⟩, by decide, by decide⟩ rfl rfl rfl rfl rfl rfl (en_ones encIt_ones _) (by decide) hk50) ?_;rintro v50 _ rfl;refine zG (_::_::C) rfl (zA R4 (zN ?_));cases h;exact ⟨rfl, v50, (sb (pk [1,98] rfl))⟩
     refine zD rfl (zK ?_);cases h;exact ⟨rfl, v1, (sb .refl)⟩
   ·rintro out_2 v1_2 h;refine zT rfl (zM R4 ?_);obtain ⟨hk14, h⟩ := chk_some h;refine zV R3 (Val.add rfl rfl hk14) (zA R4 (zN ?_));cases h;exact ⟨rfl, v1_2, (sb .refl)⟩
  refine zD rfl (zE ?_);cases h;exact ⟨ex_ne, ⟨rfl, v1, (sb .refl)⟩⟩
 ·rintro out v1 h;refine zU rfl (zM R4 (zA R4 (zN (zR ?_))));cases h;exact ⟨rfl, _, rfl, ⟨v1, rfl, .refl⟩⟩
set_option maxRecDepth 10000 in
theorem tf_l_with {k : Nat} (hk : 0 ≤ k) {C : List Thing} {v_l : AV} {l : List Item} {at_ : Int} {x : Item} (ht_l : RdT encIt v_l l) {r : (List Item)} (h : P_l_with l at_ x = some r) :
  TF (EL k) 25 [v_l, iv (at_), .agg [x.could.v]] C (RepF (fun (w : AV) => w) (fun (w : AV) => ownL false w encIt r :: C)) := by
 unfold P_l_with at h
 have h_l : Rdl C encIt v_l l := RdT.rdl ht_l;refine TF.enter (fn := Go.Proofs.Try.f25) rfl rfl rfl rfl rfl (zU rfl (zQ 1 [_] R7 (fun b5=>zA R4 (zN (zU rfl (zM R4 (zM R4 (zV R3 (Val.len_l h_l M1 rfl rfl) ?_))))))));obtain ⟨hk10, h⟩ := chk_some h;refine zV R3 (Val.add rfl rfl hk10) ?_;obtain ⟨hk11, h⟩ := chk_some h;refine zV R3 (Val.rem rfl rfl hk11) (zA R4 (zN (zS (T.drawE (l1 := [0, 1, 2, 3, 5, 6, 8, 9, 10]) (l2 := [4, 7, 11, 12]) (by kernel_rfl) (by kernel_rfl) (TD1.floatN rfl rfl rfl rfl (New.buildSlice (en := encIt) (l := ([] : List Item)) (vs := []) (ws := []) ⟨rfl, rfl⟩ rfl rfl rfl rfl CellsL.nil rfl rfl) (fun v12=>yL R4 (Val.move rfl) (yL R4 (Val.move rfl) ?_)))))));obtain ⟨hk15, h⟩ := chk_some h;obtain ⟨w15, htw15, hgw15, hvw15⟩ := slice_T ht_l hk15
 have hw15 : Rdl C encIt w15 (List.take ((Int.tmod at_ ((l.length : Int) + 1)) - (0 : Int)).toNat (List.drop ((0 : Int) : Int).toNat l)) := RdT.rdl htw15;refine yR R4 (hvw15 ⟨rfl, rfl⟩ rfl .no (.some rfl)) (yR R4 (vW 1 [_] R5 R4) (TD1.floatN rfl rfl rfl rfl (New.buildSlice (en := encIt) (l := [(⟨x.could⟩ : Item)]) (vs := [(_, _)]) (ws := [(_, [_])]) ⟨rfl, rfl⟩ rfl rfl rfl rfl (CellsL.cons rfl CellsL.nil) rfl rfl) (fun v18=>yL R4 (Val.move rfl) (yL R4 (Val.move rfl) ?_))));obtain ⟨hk22, h⟩ := chk_some h;obtain ⟨w22, htw22, hgw22, hvw22⟩ := slice_T ht_l hk22
 have hw22 : Rdl C encIt w22 (List.take ((l.length : Int) - (Int.tmod at_ ((l.length : Int) + 1))).toNat (List.drop ((Int.tmod at_ ((l.length : Int) + 1)) : Int).toNat l)) := RdT.rdl htw22;refine yR R4 (hvw22 ⟨rfl, rfl⟩ rfl (.some rfl) .no) (TD1.over (fun v => sameC_refl v) (all_cons (⟨_, rfl, (hvw22 ⟨rfl, rfl⟩ rfl (.some rfl) .no)⟩) (all_cons (⟨_, rfl, (vW 2 [_] R5 R4)⟩) (all_cons (⟨_, rfl, (hvw15 ⟨rfl, rfl⟩ rfl .no (.some rfl))⟩) all_nil))) (TD2.less (Less.floatOwn (en := encIt) (l := ([] : List Item)) (p := 1) rfl) (yG (_::_::_::C) rfl ?_)));obtain ⟨hk16, h⟩ := chk_some h;refine TD2.heavy (fun v => sameC_refl v) rfl (by decide) rfl rfl (OpS.eff (Eff.append_l (b := 24) (en := encIt) (l := ([] : List Item)) (p := 1) ⟨rfl, rfl, rfl, ⟨_, rfl, rfl⟩, by decide, by decide⟩ rfl rfl rfl hw15 M3 rfl rfl (en_ones encIt_ones _) (by decide) hk16)) ?_;rintro v16 _ rfl;refine ⟨(all_cons (.inr ⟨_, rfl, (hvw22 ⟨rfl, rfl⟩ rfl (.some rfl) .no)⟩) (all_cons (.inr ⟨_, rfl, (vW 2 [_] R5 R4)⟩) (all_cons (.inl (by kernel_rfl)) all_nil))), (all_cons (.inr (by repeat first | exact List.mem_cons_self | apply List.mem_cons_of_mem)) (all_cons (.inl (by kernel_rfl)) all_nil)), ?_⟩;refine yG (_::_::_::C) rfl (TD2.less (Less.floatOwn (en := encIt) (l := [(⟨x.could⟩ : Item)]) (p := 0) rfl) (yG (_::_::_::C) rfl ?_));obtain ⟨hk19, h⟩ := chk_some h;refine TD2.heavy (fun v => sameC_refl v) rfl (by decide) rfl rfl (OpS.eff (Eff.append_own (b := 24) (en := encIt) (l := (([] : List Item) ++ (List.take ((Int.tmod at_ ((l.length : Int) + 1)) - (0 : Int)).toNat (List.drop ((0 : Int) : Int).toNat l)))) (l2 := [(⟨x.could⟩ : Item)]) (p := 1) (q := 0) ⟨rfl, rfl, rfl, ⟨_, rfl, rfl⟩, by decide, by decide⟩ rfl rfl rfl rfl rfl rfl (en_ones encIt_ones _) (by decide) hk19)) ?_;rintro v19 _ rfl;refine ⟨(all_cons (.inr ⟨_, rfl, (hvw22 ⟨rfl, rfl⟩ rfl (.some rfl) .no)⟩) (all_cons (.inl (by kernel_rfl)) (all_cons (.inl (by kernel_rfl)) all_nil))), (all_cons (.inl (by kernel_rfl)) (all_cons (.inl (by kernel_rfl)) all_nil)), ?_⟩;refine yG (_::_::_::C) rfl ?_;obtain ⟨hk23, h⟩ := chk_some h;refine TD2.heavy (fun v => sameC_refl v) rfl (by decide) rfl rfl (OpS.eff (Eff.append_l (b := 24) (en := encIt) (l := ((([] : List Item) ++ (List.take ((Int.tmod at_ ((l.length : Int) + 1)) - (0 : Int)).toNat (List.drop ((0 : Int) : Int).toNat l))) ++ [(⟨x.could⟩ : Item)])) (p := 1) ⟨rfl, rfl, rfl, ⟨_, rfl, rfl⟩, by decide, by decide⟩ rfl rfl rfl hw22 M3 rfl rfl (en_ones encIt_ones _) (by decide) hk23)) ?_;rintro v23 _ rfl;refine ⟨(all_cons (.inl (by kernel_rfl)) (all_cons (.inl (by kernel_rfl)) (all_cons (.inl (by kernel_rfl)) all_nil))), (all_cons (.inl (by kernel_rfl)) (all_cons (.inl (by kernel_rfl)) all_nil)), ?_⟩;refine yG (_::_::_::C) rfl (yM R4 (Val.assign rfl) (TD2.nil (zR ?_)));cases h;exact ⟨rfl, _, rfl, ⟨v23, rfl, (pk [1,98,98] rfl)⟩⟩
set_option maxRecDepth 10000 in
theorem tf_l_same {k : Nat} (hk : 0 ≤ k) {C : List Thing} {v_a : AV} {a_ : List Item} {v_b : AV} {b : List Item} (ht_a : RdT encIt v_a a_) (ht_b : RdT encIt v_b b) {r : Bool} (h : P_l_same a_ b = some r) :
  TF (EL k) 26 [v_a, v_b] C (RepF (fun (w : Unit) => bv r) (fun (w : Unit) => C)) := by
 unfold P_l_same at h
 have h_a : Rdl C encIt v_a a_ := RdT.rdl ht_a
 have h_b : Rdl C encIt v_b b := RdT.rdl ht_b;refine TF.enter (fn := Go.Proofs.Try.f26) rfl rfl rfl rfl rfl (zU rfl (zA R4 (zN ?_)))
 show T _ _ _ _ _ _;apply T.join (r := r) (W := Unit) (fun j w => ⟨[], [(0, v_a), (1, v_b)], C⟩) h
 ·intro j h;refine zU rfl (zA R4 (zN (zB ?_)))
  show T _ _ _ _ _ _;apply T.iter (r := j) (W := Unit) (fun j w => ⟨[], [(0, v_a), (1, v_b), (5, iv (j))], C⟩) (w0 := ()) h
  ·exact (sb .refl)
  rintro i _ a h;unfold P_l_same_L1 at h;refine zS (zU rfl (zM R4 (zM R4 (zV R3 (Val.len_l h_a mem0 rfl rfl) ?_))));obtain ⟨c9, hc9⟩ := zY (i < (a_.length : Int));refine zV R3 (Val.lss hc9 rfl rfl) (zN ?_);obtain ⟨rfl, hc9, h⟩ | ⟨rfl, hc9, h⟩ := zI hc9 h
  ·refine zC rfl (zK (zS (zB (zS (T.draw (fun v => sameC_refl v) (l1 := [0, 1, 2, 3, 4, 5, 6, 7, 8, 9, 10, 11, 12, 13, 14]) (l2 := []) (by kernel_rfl) (by kernel_rfl) (zM R4 (zM R4 ?_)))))));obtain ⟨a14, hia14, ea14, h⟩ := el_some h;refine TO.fact (rdl_at h_a mem0 hia14 ea14) (fun hp=>?_);obtain ⟨pa14, hpa14, hva14⟩ := hp;refine zV R3 (hva14 ⟨rfl, rfl⟩ rfl rfl) (zV R3 (Val.faddr_e (fo := 0) hpa14 rfl rfl rfl) (zV R3 (Val.load_e (PtE.add hpa14 (by decide)) mem0 ⟨_, rfl, rfl⟩ rfl rfl) ?_));obtain ⟨a17, hia17, ea17, h⟩ := el_some h;refine TO.fact (rdl_at (Rdl.gs (C := C) a14.could) mem0 hia17 ea17) (fun hp=>?_);obtain ⟨pa17, hpa17, hva17⟩ := hp;refine zV R3 (hva17 ⟨rfl, rfl⟩ rfl rfl) (zV R3 (Val.load_e hpa17 mem0 ⟨_, rfl, rfl⟩ rfl rfl) (zM R4 (zM R4 ?_)));obtain ⟨a21, hia21, ea21, h⟩ := el_some h;refine TO.fact (rdl_at h_b mem0 hia21 ea21) (fun hp=>?_);obtain ⟨pa21, hpa21, hva21⟩ := hp;refine zV R3 (hva21 ⟨rfl, rfl⟩ rfl rfl) (zV R3 (Val.faddr_e (fo := 0) hpa21 rfl rfl rfl) (zV R3 (Val.load_e (PtE.add hpa21 (by decide)) mem0 ⟨_, rfl, rfl⟩ rfl rfl) ?_));obtain ⟨a24, hia24, ea24, h⟩ := el_some h;refine TO.fact (rdl_at (Rdl.gs (C := C) a21.could) mem0 hia24 ea24) (fun hp=>?_);obtain ⟨pa24, hpa24, hva24⟩ := hp;refine zV R3 (hva24 ⟨rfl, rfl⟩ rfl rfl) (zV R3 (Val.load_e hpa24 mem0 ⟨_, rfl, rfl⟩ rfl rfl) ?_);obtain ⟨c26, hc26⟩ := zY (¬ a17 = a24);refine zV R3 (Val.neq hc26 rfl rfl) (zN ?_);obtain ⟨rfl, hc26, h⟩ | ⟨rfl, hc26, h⟩ := zI hc26 h
   ·refine zC rfl (zU rfl (zA R4 (zN (zR ?_))));cases h;exact ⟨ret_ne, ⟨ret_ne, ⟨rfl, _, rfl, ⟨(), rfl, .refl⟩⟩⟩⟩
   refine zD rfl (zK (zT rfl (zM R4 ?_)));obtain ⟨hk11, h⟩ := chk_some h;refine zV R3 (Val.add rfl rfl hk11) (zA R4 (zN ?_));cases h;exact ⟨rfl, (), (sb .refl)⟩
  refine zD rfl (zE ?_);cases h;exact ⟨ex_ne, ⟨rfl, (), (sb .refl)⟩⟩
 ·rintro _ _ h;refine zU rfl (zM R4 (zV R3 (Val.len_l h_a mem0 rfl rfl) (zM R4 (zV R3 (Val.len_l h_b mem0 rfl rfl) ?_))));obtain ⟨c31, hc31⟩ := zY ((a_.length : Int) = (b.length : Int));refine zV R3 (Val.eql hc31 rfl rfl) (zA R4 (zN (zR ?_)));subst hc31;cases h;exact ⟨rfl, _, rfl, ⟨(), rfl, .refl⟩⟩
theorem w_l_same (a_ : GS encIt) (b : GS encIt) (r : Bool) (h : P_l_same a_.l b.l = some r) : Comes (EL 0) 26 [a_.v, b.v] (bv r) :=
 TF.run (tf_l_same (Nat.le_refl _) (RdT.gs a_) (RdT.gs b) h) fun w => .lit
end Go.Am.Ythckcbfijdambaa
end
section
namespace Go.Am
set_option linter.unusedVariables false
end Go.Am
end
section
namespace Go.Am.Ythckcbfijdambaa
open Go.Am Go.RowKit
set_option linter.unusedVariables false
set_option linter.unusedSimpArgs false
end Go.Am.Ythckcbfijdambaa
end
section
namespace Go.Am
set_option linter.unusedVariables false
end Go.Am
end
section
namespace Go.Am
set_option linter.unusedVariables false
end Go.Am
end
section
namespace Go.Am.Ythckcbfijdambaa
open Go.Am Go.RowKit
set_option linter.unusedVariables false
set_option linter.unusedSimpArgs false
end Go.Am.Ythckcbfijdambaa
end
section
namespace Go.Am
open Go.RowKit
set_option linter.unusedVariables false
set_option linter.unusedSimpArgs false
def PartOf (v : AV) (m : Nat) (cells : List AV) (lo k : Nat) (w : AV) : Prop :=
 ∀ {S : St} {hs : List Thing} {p : Nat} {z : Bool}, HasS S hs → hs[p]? = some (.own z v 1 m cells) → cells.all oneCell = true → Src S w 1 k ((cells.drop lo).take k)
theorem own_shapeS {hs : List Thing} {p m : Nat} {z : Bool} {v : AV} {cells : List AV} (hp : hs[p]? = some (.own z v 1 m cells)) : ∀ S, HasS S hs → cells.length = m ∧ ((v = nilS ∧ m = 0) ∨ ∃ id ex, v = .slice id 0 m ex m m) := fun S hS => by
 rcases hS.own hp with ⟨h0, h1, h2, h3⟩ | ⟨id, ex, h1, h2, h3, h4⟩
 ·exact ⟨by rw [h3, h2]; rfl, .inl ⟨h1, h2⟩⟩
 ·rw [Nat.mul_one] at h2;exact ⟨h2, .inr ⟨id, ex, by rw [h1, h2]⟩⟩
theorem own_rowS {S : St} {hs : List Thing} {p m id : Nat} {z ex : Bool} {cells : List AV} (hS : HasS S hs) (hp : hs[p]? = some (.own z (.slice id 0 m ex m m) 1 m cells)) : IsRow S id 1 cells := by
 rcases hS.own hp with ⟨_, k1, _⟩ | ⟨id', ex', k1, _, _, k4⟩
 ·cases k1
 ·injection k1 with k1
  subst k1;exact k4
theorem all_part {l : List AV} (h : l.all oneCell = true) (a b : Nat) : ((l.drop a).take b).all oneCell = true :=
 List.all_eq_true.2 fun x hx => List.all_eq_true.1 h x (List.mem_of_mem_drop (List.mem_of_mem_take hx))
theorem slice_P {v : AV} {m : Nat} {cells : List AV} {lo hi : Nat} (hsh : cells.length = m ∧ ((v = nilS ∧ m = 0) ∨ ∃ id ex, v = .slice id 0 m ex m m)) (hl : lo ≤ hi) (hh : hi ≤ m) :
  ∃ w, PartOf v m cells lo (hi - lo) w ∧ ∀ {E : Env} {σ : Sl} {hs : List Thing} {p : Nat} {z : Bool} {st e : TypeId} {x : Operand} {olo ohi : Option Operand}, hs[p]? = some (.own z v 1 m cells) → SliceT E st e 1 → evs σ x = some v → Bd σ olo 0 (lo : Int) → Bd σ ohi (m : Int) (hi : Int) → Val E σ hs (.slice st x olo ohi none) w := by
 obtain ⟨hcl, hsh⟩ := hsh
 have ops : ∀ {σ : Sl} {ev : Operand → AV} {o : Option Operand} {df : Int} {k : Nat}, (∀ x v, evs σ x = some v → ev x = v) → Bd σ o df (k : Int) → (o.map ev = none ∧ (k : Int) = df) ∨ o.map ev = some (iv (k : Int)) := fun he hB => by
  rcases hB with ⟨rfl, h⟩ | ⟨x, rfl, h⟩
  ·exact .inl ⟨rfl, h⟩
  ·exact .inr (congrArg some (he _ _ h))
 rcases hsh with ⟨rfl, rfl⟩ | ⟨id, ex, rfl⟩
 ·have h0 : lo = 0 ∧ hi = 0 := by omega
  obtain ⟨rfl, rfl⟩ := h0;refine ⟨nilS, fun {S hs p z} hS hp h1 => ⟨rfl, fun h => absurd rfl h, by simp, by simp⟩, fun {E σ hs p z st e x olo ohi} hp ht hx hl1 hh1 ev S he hS o ho => ?_⟩
  have hbd := bounds_ok (m := 0) (lo := 0) (hi := 0) (olo := olo.map ev) (ohi := ohi.map ev) hl hh ((ops he hl1).imp (fun x => ⟨x.1, by omega⟩) fun x => x) ((ops he hh1).imp (fun x => ⟨x.1, by have := x.2; omega⟩) fun x => x);unfold aop; rw [ho];simp only [he _ _ hx, nilS, aslice, ht.1, ht.2, ofOpt, Except.bind, Option.map_none, isLitInt, Bool.false_and, cond_false, hbd, valOf];rfl
 ·by_cases hc : m = lo ∧ ex = false ∧ lo ≠ 0
  ·obtain ⟨rfl, rfl, hlo⟩ := hc
   have e0 : hi - m = 0 := by omega
   refine ⟨.tree 1 0 [], fun {S hs p z} hS hp h1 => by rw [e0]; exact ⟨rfl, fun h => absurd rfl h, by simp, by simp⟩, fun {E σ hs p z st e x olo ohi} hp ht hx hl1 hh1 ev S he hS o ho => ?_⟩
   have hbd := bounds_ok (m := m) (lo := m) (hi := hi) (olo := olo.map ev) (ohi := ohi.map ev) hl hh ((ops he hl1).imp (fun x => ⟨x.1, by omega⟩) fun x => x) ((ops he hh1).imp (fun x => ⟨x.1, by have := x.2; omega⟩) fun x => x);obtain ⟨fl, k4, k5⟩ := own_rowS hS hp
   have er : rowOf S id = .ok (cells, 1, fl) := by unfold rowOf; rw [k5]
   have b1 : Nat.beq m m = true := Nat.beq_refl _
   have b2 : Nat.beq m 0 = false := beq_false.2 hlo
   have b3 : Nat.beq 1 1 = true := rfl;unfold aop; rw [ho];simp only [he _ _ hx, aslice, ht.1, ht.2, ofOpt, Except.bind, Option.map_none, isLitInt, Bool.false_and, cond_false, hbd, valOf, er, b1, b2, b3, Bool.not_true, Bool.or_self, Bool.and_false, cond_true];rfl
  ·refine ⟨.slice id (bif Nat.beq m lo then 0 else 0 + lo * 1) m ex (hi - lo) (m - lo), fun {S hs p z} hS hp h1 => ⟨rfl, fun hne => ?_, by rw [List.length_take, List.length_drop]; omega, all_part h1 _ _⟩, fun {E σ hs p z st e x olo ohi} hp ht hx hl1 hh1 ev S he hS o ho => ?_⟩
   ·have k4 := own_rowS hS hp
    have b1 : Nat.beq m lo = false := beq_false.2 (by omega);obtain ⟨_, hll⟩ := hS.loadAll k4;simp only [firstN, b1, cond_false]
    have := hll (0 + lo * 1) ((hi - lo) * 1) (by omega);rw [hcl] at this;rw [this, Nat.zero_add, Nat.mul_one, Nat.mul_one]
   ·have hbd := bounds_ok (m := m) (lo := lo) (hi := hi) (olo := olo.map ev) (ohi := ohi.map ev) hl hh ((ops he hl1).imp (fun x => ⟨x.1, by omega⟩) fun x => x) ((ops he hh1).imp (fun x => ⟨x.1, by have := x.2; omega⟩) fun x => x);obtain ⟨fl, k4, k5⟩ := own_rowS hS hp
    have er : rowOf S id = .ok (cells, 1, fl) := by unfold rowOf; rw [k5]
    have b3 : (!(Nat.beq m lo) || ex || Nat.beq lo 0) = true := by
     cases h1 : Nat.beq m lo with
     | false => rfl
     | true =>
      have h1 := Nat.eq_of_beq_eq_true h1;cases ex with
      | true => rfl
      | false =>
       have : lo = 0 := Classical.byContradiction fun h => hc ⟨h1, rfl, h⟩
       subst this;rfl
    have b4 : (Nat.beq 1 1 && (!(Nat.beq m lo) || ex || Nat.beq lo 0)) = true := by rw [b3]; rfl
    unfold aop; rw [ho];simp only [he _ _ hx, aslice, ht.1, ht.2, ofOpt, Except.bind, Option.map_none, isLitInt, Bool.false_and, cond_false, hbd, valOf, er, b4, cond_true];rfl
section
variable {E : Env} {σ : Sl} {hs : List Thing}
theorem Eff.append_nestP {α : Type} {st e b p q lo k : Nat} {z z2 : Bool} {v v2 w : AV} {ls ls2 : List (List α)} {ws ws2 : List AV} {ts : Array TypeId} {x y : Operand} (ht : AppT E st e 1 b) (hts : ts[0]? = some st) (hni : notInt E ts[1]? = .ok ()) (hp : hs[p]? = some (nestH z v ls ws)) (hq : hs[q]? = some (nestH z2 v2 ls2 ws2))
  (hw : PartOf v2 ls2.length ws2 lo k w) (hk : lo + k ≤ ls2.length) (hx : evs σ x = some v) (hy : evs σ y = some w) (hone : ∀ S, HasS S hs → ws2.all oneCell = true) (hb : b ≤ 128) (hbig : ls.length + k < 1000000000) :
  Eff E σ hs (.call { callee := .builtin .append, args := #[x, y], argTypes := ts }) fun v' hs' => hs' = hs.set p (nestH z v' (ls ++ (ls2.drop lo).take k) (ws ++ (ws2.drop lo).take k)) := fun ev S he hS o ho => by
 have hbb : (2 * (ls.length + k) + 1000) * b ≤ (2 * 1000000000 + 1000) * 128 := Nat.mul_le_mul (by omega) hb;obtain ⟨v', S', h1, h2⟩ := Am.append_own hS ht hts hni hp (hw hS hq (hone S hS)) (by omega);refine ⟨v', S', _, ?_, h2, ?_⟩
 ·unfold aop; rw [ho];simp only [acall, abuiltin, List.map_cons, List.map_nil, he _ _ hx, he _ _ hy, h1, Except.bind]
 ·show _ = hs.set p (.own z v' 1 (ls ++ (ls2.drop lo).take k).length (ws ++ (ws2.drop lo).take k));rw [List.length_append, List.length_take, List.length_drop, show min k (ls2.length - lo) = k by omega]
end
theorem Less.carry {α : Type} {en : En α} {ws1 ws2 : List AV} {l1 l2 : List (List α)} (A : List Thing) {C : List Thing} (a : Nat) (h1 : ws1.length = l1.length) (h2 : ws2.length = l2.length) :
  Less (A ++ (seg en ((ws2.take a ++ ws1) ++ ws2.drop a) ((l2.take a ++ l1) ++ l2.drop a) ++ C)) (A ++ (seg en ws1 l1 ++ (seg en ws2 l2 ++ C))) := by
 refine .perm (List.Perm.append_left A ?_)
 have ht : (ws2.take a).length = (l2.take a).length := by rw [List.length_take, List.length_take, h2]
 have e2 : seg en ws2 l2 = seg en (ws2.take a) (l2.take a) ++ seg en (ws2.drop a) (l2.drop a) := by
  rw [← seg_append ht, List.take_append_drop, List.take_append_drop]
 rw [seg_append (by rw [List.length_append, List.length_append, ht, h1]), seg_append ht, e2];generalize seg en ws1 l1 = X;generalize seg en (ws2.take a) (l2.take a) = Y;generalize seg en (ws2.drop a) (l2.drop a) = Z
 have : (X ++ (Y ++ Z ++ C)).Perm (Y ++ X ++ Z ++ C) := by
  rw [List.append_assoc Y Z C, ← List.append_assoc X, List.append_assoc (Y ++ X)];exact List.Perm.append_right _ List.perm_append_comm
 exact this
theorem slice_take {v : AV} {m : Nat} {cells : List AV} {hi : Int} (hsh : cells.length = m ∧ ((v = nilS ∧ m = 0) ∨ ∃ id ex, v = .slice id 0 m ex m m)) (hb : 0 ≤ hi ∧ hi ≤ m) :
  ∃ w, PartOf v m cells 0 hi.toNat w ∧ ∀ {E : Env} {σ : Sl} {hs : List Thing} {p : Nat} {z : Bool} {st e : TypeId} {x : Operand} {ohi : Option Operand}, hs[p]? = some (.own z v 1 m cells) → SliceT E st e 1 → evs σ x = some v → Bd σ ohi (m : Int) hi → Val E σ hs (.slice st x none ohi none) w := by
 obtain ⟨b, rfl⟩ : ∃ b : Nat, hi = b := ⟨hi.toNat, by omega⟩;obtain ⟨w, h1, h2⟩ := slice_P (lo := 0) (hi := b) hsh (Nat.zero_le _) (by omega);exact ⟨w, h1, fun hp ht hx hB => h2 hp ht hx .no hB⟩
theorem slice_drop {v : AV} {m : Nat} {cells : List AV} {lo : Int} (hsh : cells.length = m ∧ ((v = nilS ∧ m = 0) ∨ ∃ id ex, v = .slice id 0 m ex m m)) (hb : 0 ≤ lo ∧ lo ≤ m) :
  ∃ w, PartOf v m cells lo.toNat (m - lo.toNat) w ∧ ∀ {E : Env} {σ : Sl} {hs : List Thing} {p : Nat} {z : Bool} {st e : TypeId} {x : Operand} {olo : Option Operand}, hs[p]? = some (.own z v 1 m cells) → SliceT E st e 1 → evs σ x = some v → Bd σ olo 0 lo → Val E σ hs (.slice st x olo none none) w := by
 obtain ⟨a, rfl⟩ : ∃ a : Nat, lo = a := ⟨lo.toNat, by omega⟩;obtain ⟨w, h1, h2⟩ := slice_P (lo := a) (hi := m) hsh (by omega) (Nat.le_refl _);exact ⟨w, h1, fun hp ht hx hB => h2 hp ht hx hB .no⟩
section
variable {E : Env} {σ : Sl} {hs : List Thing}
theorem Eff.append_nestT {α : Type} {st e b p q k : Nat} {z z2 : Bool} {v v2 w : AV} {ls ls2 : List (List α)} {ws ws2 : List AV} {ts : Array TypeId} {x y : Operand} (ht : AppT E st e 1 b) (hts : ts[0]? = some st) (hni : notInt E ts[1]? = .ok ()) (hp : hs[p]? = some (nestH z v ls ws)) (hq : hs[q]? = some (nestH z2 v2 ls2 ws2))
  (hw : PartOf v2 ls2.length ws2 0 k w) (hk : k ≤ ls2.length) (hx : evs σ x = some v) (hy : evs σ y = some w) (hone : ∀ S, HasS S hs → ws2.all oneCell = true) (hb : b ≤ 128) (hbig : ls.length + ls2.length < 1000000000) :
  Eff E σ hs (.call { callee := .builtin .append, args := #[x, y], argTypes := ts }) fun v' hs' => hs' = hs.set p (nestH z v' (ls ++ ls2.take k) (ws ++ ws2.take k)) :=
 Eff.append_nestP (k := k) (lo := 0) ht hts hni hp hq hw (by omega) hx hy hone hb (by omega)
theorem Eff.append_nestD {α : Type} {st e b p q k : Nat} {z z2 : Bool} {v v2 w : AV} {ls ls2 : List (List α)} {ws ws2 : List AV} {ts : Array TypeId} {x y : Operand} (ht : AppT E st e 1 b) (hts : ts[0]? = some st) (hni : notInt E ts[1]? = .ok ()) (hp : hs[p]? = some (nestH z v ls ws)) (hq : hs[q]? = some (nestH z2 v2 ls2 ws2))
  (hl2 : ws2.length = ls2.length) (hw : PartOf v2 ls2.length ws2 k (ls2.length - k) w) (hk : k ≤ ls2.length) (hx : evs σ x = some v) (hy : evs σ y = some w) (hone : ∀ S, HasS S hs → ws2.all oneCell = true) (hb : b ≤ 128) (hbig : ls.length + ls2.length < 1000000000) :
  Eff E σ hs (.call { callee := .builtin .append, args := #[x, y], argTypes := ts }) fun v' hs' => hs' = hs.set p (nestH z v' (ls ++ ls2.drop k) (ws ++ ws2.drop k)) := by
 have h := Eff.append_nestP (k := ls2.length - k) (lo := k) ht hts hni hp hq hw (by omega) hx hy hone hb (by omega);rw [List.take_of_length_le (by rw [List.length_drop]; exact Nat.le_refl _), List.take_of_length_le (by rw [List.length_drop, hl2]; exact Nat.le_refl _)] at h;exact h
end
inductive RdA {α : Type} (C : List Thing) (en : En α) : List AV → List (List α) → Prop
 | nil : RdA C en [] []
 | cons {v : AV} {l : List α} {vs : List AV} {ls : List (List α)} (h : Rdl C en v l) (hs : RdA C en vs ls) : RdA C en (v :: vs) (l :: ls)
theorem RdA.at {α : Type} {C : List Thing} {en : En α} {vs : List AV} {ls : List (List α)} (h : RdA C en vs ls) : ∀ {i : Nat} {l : List α}, ls[i]? = some l → ∃ v, vs[i]? = some v ∧ Rdl C en v l := by
 induction h with
 | nil => intro i l hl; cases hl
 | @cons v l vs ls h hs ih =>
  intro i l' hl;cases i with
  | zero => injection hl with e; subst e; exact ⟨v, rfl, h⟩
  | succ i => exact ih hl
theorem RdA.len {α : Type} {C : List Thing} {en : En α} {vs : List AV} {ls : List (List α)} (h : RdA C en vs ls) : vs.length = ls.length := by
 induction h with
 | nil => rfl
 | cons h hs ih => rw [List.length_cons, List.length_cons, ih]
theorem RdA.pos {α : Type} {C : List Thing} {en : En α} {vs : List AV} {ls : List (List α)} (h : RdA C en vs ls) {i : Int} (hi : 0 ≤ i ∧ i < ls.length) : 0 ≤ i ∧ i < vs.length := by
 rw [h.len]; exact hi
theorem memc {C hs : List Thing} {p : Nat} {a : Thing} (h : hs[p]? = some a) (hC : ∀ x ∈ C, x ∈ hs) : ∀ x ∈ a :: C, x ∈ hs := fun x hx => by
 rcases List.mem_cons.1 hx with rfl | hx
 ·exact List.mem_of_getElem? h
 ·exact hC x hx
end Go.Am
end
section
namespace Go.Am
set_option linter.unusedVariables false
noncomputable def P_l_carried_L1 (which : Int) (to : Int) (all14 : List Leaf) : (Int × Int × (List (List Int)) × (List (List Int))) → Option (Stp (Int × Int × (List (List Int)) × (List (List Int))) (Int × (List (List Int)) × (List (List Int)))) := fun (at_, i, moved, rest) =>
  if i < (all14.length : Int) then
    andx (
      el all14 i fun a26 =>
      if a26.g = which then
        chk (moved.length + [[i]].length < 1000000000) (
          some (at_, moved ++ [[i]], rest))
      else
        andx (
          andx (
            el all14 i fun a37 =>
            if a37.g = to then
              some (decide (at_ < 0))
            else
              some false) fun x45 =>
            if x45 = true then
              some (rest.length : Int)
            else
              some at_) fun at__2 =>
          chk (rest.length + [[i]].length < 1000000000) (
            some (at__2, moved, rest ++ [[i]]))) fun (at__2, moved_2, rest_2) =>
      chk (I64 (i + 1)) (
        some (Stp.ag (at__2, (i + 1), moved_2, rest_2)))
  else
    some (Stp.dn (at_, moved, rest))
noncomputable def P_l_carried (b_Signed : Int) (b_Gatherings : List Gat) (which : Int) (to : Int) : Option (List (List Int)) :=
  andx (P_r1_All b_Signed b_Gatherings) fun all14 =>
    andx (
      iter (P_l_carried_L1 which to all14) ((-1), 0, ([] : List (List Int)), ([] : List (List Int)))) fun (at_, moved, rest) =>
      andx (
        if at_ < 0 then
          some (rest.length : Int)
        else
          some at_) fun at__2 =>
        chk (0 ≤ at__2 ∧ at__2 ≤ (rest.length : Int)) (
          chk (0 ≤ at__2 ∧ at__2 ≤ (rest.length : Int)) (
            chk (([] : List (List Int)).length + rest.length < 1000000000) (
              chk ((List.take (Int.toNat at__2) rest).length + moved.length < 1000000000) (
                chk (((List.take (Int.toNat at__2) rest) ++ moved).length + rest.length < 1000000000) (
                  some (((List.take (Int.toNat at__2) rest) ++ moved) ++ (List.drop (Int.toNat at__2) rest)))))))
noncomputable def P_law_CopyWhole_L1 (b_Signed : Int) (b_Gatherings : List Gat) (y35 : List (List Int)) (y72 : List (List Int)) (y77 : List Item) (y81 : List Item) (y87 : List Item) (y104 : List Item) : Int → Option (Stp Int (Ex Unit Bool)) := fun i =>
  if i < ((6 : Nat) : Int) then
    seqx (
      andx (
        andx (
          if i = 0 then
            some true
          else
            if i = 5 then
              andx (P_l_same (List.map (fun x => (⟨GSo true encI x⟩ : Item)) y72) (List.map (fun x => (⟨GSo true encI x⟩ : Item)) y35)) fun y121 =>
                some y121
            else
              some false) fun x123 =>
          if x123 = true then
            some 0
          else
            some 1) fun want =>
        el ([List.map (fun x => (⟨GSo true encI x⟩ : Item)) y35, y77, y81, y87, y104, List.map (fun x => (⟨GSo true encI x⟩ : Item)) y72] : List (List Item)) i fun a128 =>
        andx (P_c_Faults b_Signed b_Gatherings a128) fun (y131, y131_2, y131_3, y131_4, y131_5, y131_6, y131_7, y131_8, y131_9, y131_10, y131_11, y131_12, y131_13) =>
          el ([List.map (fun x => (⟨GSo true encI x⟩ : Item)) y35, y77, y81, y87, y104, List.map (fun x => (⟨GSo true encI x⟩ : Item)) y72] : List (List Item)) i fun a138 =>
          andx (P_c_Range b_Signed b_Gatherings a138) fun (y141, y141_2, y141_3) =>
            andx (
              if ¬ y131_13 = 0 then
                some true
              else
                if ¬ y141_3 = 0 then
                  some true
                else
                  if ¬ y131_12 = want then
                    some true
                  else
                    andx (P_l_span want want) fun (y160, y160_2) =>
                      some (decide (¬ (y141 = y160 ∧ y141_2 = y160_2)))) fun x162 =>
              if x162 = true then
                some (Ex.rt (Stp.dn (Ex.rt false)))
              else
                some (Ex.nx ())) fun _ =>
      chk (I64 (i + 1)) (
        some (Stp.ag (i + 1)))
  else
    some (Stp.dn (Ex.nx ()))
noncomputable def P_law_CopyWhole (b_Signed : Int) (b_Gatherings : List Gat) (x_0 : UInt16) (x_1 : UInt16) (x_2 : UInt16) (x_3 : UInt16) : Option Bool :=
  andx (P_l_whole b_Signed b_Gatherings) fun y21 =>
    if y21 = true then
      andx (P_l_full b_Signed b_Gatherings) fun y35 =>
        seqx (
          andx (
            if ((List.map (fun x => (⟨GSo true encI x⟩ : Item)) y35).length : Int) = 0 then
              some true
            else
              some (decide (((List.map (fun x => (⟨GSo true encI x⟩ : Item)) y35).length : Int) = 120))) fun x43 =>
            if x43 = true then
              some (Ex.rt true)
            else
              some (Ex.nx ())) fun _ =>
          chk (-9223372036854775808 ≤ (x_0.toNat : Int) ∧ (x_0.toNat : Int) < 9223372036854775808) (
            chk (0 < ((List.map (fun x => (⟨GSo true encI x⟩ : Item)) y35).length : Int)) (
              andx (P_r1_Pair b_Signed b_Gatherings (Int.tmod (x_0.toNat : Int) ((List.map (fun x => (⟨GSo true encI x⟩ : Item)) y35).length : Int))) fun mate53 =>
                chk (-9223372036854775808 ≤ (x_1.toNat : Int) ∧ (x_1.toNat : Int) < 9223372036854775808) (
                  chk (0 < (b_Gatherings.length : Int)) (
                    chk (-9223372036854775808 ≤ (x_2.toNat : Int) ∧ (x_2.toNat : Int) < 9223372036854775808) (
                      chk (I64 ((b_Gatherings.length : Int) + 1)) (
                        chk (0 < ((b_Gatherings.length : Int) + 1)) (
                          andx (P_l_carried b_Signed b_Gatherings (Int.tmod (x_1.toNat : Int) (b_Gatherings.length : Int)) (Int.tmod (x_2.toNat : Int) ((b_Gatherings.length : Int) + 1))) fun y72 =>
                            chk (-9223372036854775808 ≤ (x_3.toNat : Int) ∧ (x_3.toNat : Int) < 9223372036854775808) (
                              chk (I64 ((Int.tmod (x_0.toNat : Int) ((List.map (fun x => (⟨GSo true encI x⟩ : Item)) y35).length : Int)) + 1)) (
                                chk (-9223372036854775808 ≤ (x_3.toNat : Int) ∧ (x_3.toNat : Int) < 9223372036854775808) (
                                  chk (I64 (((List.map (fun x => (⟨GSo true encI x⟩ : Item)) y35).length : Int) - (Int.tmod (x_0.toNat : Int) ((List.map (fun x => (⟨GSo true encI x⟩ : Item)) y35).length : Int)))) (
                                    chk (0 < (((List.map (fun x => (⟨GSo true encI x⟩ : Item)) y35).length : Int) - (Int.tmod (x_0.toNat : Int) ((List.map (fun x => (⟨GSo true encI x⟩ : Item)) y35).length : Int)))) (
                                      chk (I64 (((Int.tmod (x_0.toNat : Int) ((List.map (fun x => (⟨GSo true encI x⟩ : Item)) y35).length : Int)) + 1) + (Int.tmod (x_3.toNat : Int) (((List.map (fun x => (⟨GSo true encI x⟩ : Item)) y35).length : Int) - (Int.tmod (x_0.toNat : Int) ((List.map (fun x => (⟨GSo true encI x⟩ : Item)) y35).length : Int)))))) (
                                        el (List.map (fun x => (⟨GSo true encI x⟩ : Item)) y35) (Int.tmod (x_0.toNat : Int) ((List.map (fun x => (⟨GSo true encI x⟩ : Item)) y35).length : Int)) fun a102 =>
                                        andx (P_l_without (List.map (fun x => (⟨GSo true encI x⟩ : Item)) y35) (Int.tmod (x_0.toNat : Int) ((List.map (fun x => (⟨GSo true encI x⟩ : Item)) y35).length : Int)) (Int.tmod (x_0.toNat : Int) ((List.map (fun x => (⟨GSo true encI x⟩ : Item)) y35).length : Int))) fun y77 =>
                                          andx (P_l_without (List.map (fun x => (⟨GSo true encI x⟩ : Item)) y35) (Int.tmod (x_0.toNat : Int) ((List.map (fun x => (⟨GSo true encI x⟩ : Item)) y35).length : Int)) mate53) fun y81 =>
                                            andx (P_l_with (List.map (fun x => (⟨GSo true encI x⟩ : Item)) y35) (x_3.toNat : Int) (⟨(GSo true encI [])⟩ : Item)) fun y87 =>
                                              andx (P_l_with (List.map (fun x => (⟨GSo true encI x⟩ : Item)) y35) (((Int.tmod (x_0.toNat : Int) ((List.map (fun x => (⟨GSo true encI x⟩ : Item)) y35).length : Int)) + 1) + (Int.tmod (x_3.toNat : Int) (((List.map (fun x => (⟨GSo true encI x⟩ : Item)) y35).length : Int) - (Int.tmod (x_0.toNat : Int) ((List.map (fun x => (⟨GSo true encI x⟩ : Item)) y35).length : Int))))) a102) fun y104 =>
                                                seqx (
                                                  iter (P_law_CopyWhole_L1 b_Signed b_Gatherings y35 y72 y77 y81 y87 y104) 0) fun _ =>
                                                  some true)))))))))))))
    else
      andx (P_c_Faults b_Signed b_Gatherings []) fun (y26, y26_2, y26_3, y26_4, y26_5, y26_6, y26_7, y26_8, y26_9, y26_10, y26_11, y26_12, y26_13) =>
        andx (
          if ¬ y26_13 = 0 then
            some true
          else
            some false) fun x4 =>
          some x4
end Go.Am
end
section
namespace Go.Am.Ythckcbfijdambaa
open Go.Am Go.RowKit
set_option linter.unusedVariables false
set_option linter.unusedSimpArgs false
set_option maxRecDepth 10000 in
theorem tf_l_carried {k : Nat} (hk : 2 ≤ k) {C : List Thing} {b_Signed : Int} {v_b_Gatherings : AV} {b_Gatherings : List Gat} {which : Int} {to : Int} (ht_b_Gatherings : RdT encG v_b_Gatherings b_Gatherings) {r : (List (List Int))} (h : P_l_carried b_Signed b_Gatherings which to = some r) :
  TF (EL k) 23 [.agg [iv (b_Signed), v_b_Gatherings], iv (which), iv (to)] C (RepF (fun (w : AV × (List AV)) => w.1) (fun (w : AV × (List AV)) => nestH false w.1 r w.2 :: (seg encI w.2 r ++ C))) := by
 unfold P_l_carried at h
 have h_b_Gatherings : Rdl C encG v_b_Gatherings b_Gatherings := RdT.rdl ht_b_Gatherings;refine TF.enter (fn := Go.Proofs.Try.f23) rfl rfl rfl rfl rfl (zU rfl (zQ 2 [_,_] R7 (fun b3=>zA R4 (zN (zU rfl (zV R3 (vW 0 [_,_] R5 R4) ?_))))));obtain ⟨all14, hr14, h⟩ := andx_some h;obtain ⟨g, hgg, hrg⟩ := Rdl.reif (hs := .row b3 2 [iv (b_Signed), v_b_Gatherings] :: C) h_b_Gatherings M1 (ReifL.flat encG_tr);refine TO.call rfl rfl rfl rfl rfl (orcL rfl aD) (.cons (.agg (.cons .lit (.cons (hrg _) .nil))) .nil) (sem_of (w_r1_All b_Signed g _ (by try rw [hgg]; exact hr14))) (zA R4 (zN (zU rfl (zA R4 (zA R4 (zN (zU rfl (zA R4 (zN ?_)))))))))
 show T _ _ _ _ _ _;apply T.joinA (r := r) (W := AV × (List AV) × AV × (List AV)) (fun j w => ⟨[], [(8, w.1), (9, w.2.2.1), (10, iv (j.1))], nestH true w.1 j.2.1 w.2.1 :: nestH true w.2.2.1 j.2.2 w.2.2.2 :: (seg encI w.2.1 j.2.1 ++ (seg encI w.2.2.2 j.2.2 ++ C))⟩) h
 ·intro j h;refine zU rfl (zA R4 (zN (zB (T.nilown (u := 1) (T.things (hs' := nestH true nilS ([] : List (List Int)) [] :: .row b3 2 [iv (b_Signed), v_b_Gatherings] :: (seg encI [] ([] : List (List Int)) ++ C)) rfl (T.nilown (u := 1) (T.things (hs' := nestH true nilS ([] : List (List Int)) [] :: nestH true nilS ([] : List (List Int)) [] :: .row b3 2 [iv (b_Signed), v_b_Gatherings] :: (seg encI [] ([] : List (List Int)) ++ (seg encI [] ([] : List (List Int)) ++ C))) rfl ?_)))))))
  show T _ _ _ _ _ _;apply T.iter (r := j) (W := AV × (List AV) × AV × (List AV)) (fun j w => ⟨[], [(1, iv (which)), (2, iv (to)), (7, (GSo true encL all14).v), (8, w.1), (9, w.2.2.1), (10, iv (j.1)), (11, iv (j.2.1))], nestH true w.1 j.2.2.1 w.2.1 :: nestH true w.2.2.1 j.2.2.2 w.2.2.2 :: (seg encI w.2.1 j.2.2.1 ++ (seg encI w.2.2.2 j.2.2.2 ++ C))⟩) (w0 := (nilS, [], nilS, [])) h
  ·exact (sb (pk [0,0,98] rfl))
  rintro ⟨at_, i, moved, rest⟩ ⟨vn3, wsn3, vn2, wsn2⟩ a h;unfold P_l_carried_L1 at h;dsimp only at h;dsimp only;refine zS (zU rfl (zM R4 (zM R4 (zV R3 (Val.len_gs rfl rfl) ?_))));obtain ⟨c18, hc18⟩ := zY (i < (all14.length : Int));refine zV R3 (Val.lss hc18 rfl rfl) (zN ?_);obtain ⟨rfl, hc18, h⟩ | ⟨rfl, hc18, h⟩ := zI hc18 h
  ·refine zC rfl (zK ?_)
   show T _ _ _ _ _ _;apply T.joinA (r := a) (W := AV × (List AV) × AV × (List AV)) (fun j w => ⟨[], [(1, iv (which)), (2, iv (to)), (7, (GSo true encL all14).v), (8, w.1), (9, w.2.2.1), (10, iv (j.1)), (11, iv (i))], nestH true w.1 j.2.1 w.2.1 :: nestH true w.2.2.1 j.2.2 w.2.2.2 :: (seg encI w.2.1 j.2.1 ++ (seg encI w.2.2.2 j.2.2 ++ C))⟩) h
   ·intro j h;refine zB (zU rfl (zM R4 (TO.build1 (en := encI) (a := i) rfl rfl rfl ⟨rfl, rfl⟩ ⟨_, rfl, rfl⟩ (by decide) (by decide) rfl rfl (fun v22=>TO.fact (own_cellS (p := 0) rfl) (fun hot4=>zV R3 (Val.buildC (cs := [_]) (vs := [(_, _)]) (ws := [(_, [_])]) rfl rfl (CellsL.cons hot4.1 CellsL.nil) rfl) (zJ 1 [_] R7 (fun b12=>TO.fact (own_cellS (p := 1) rfl) (fun hot4=>TO.eff0 rfl rfl (Eff.store_row (p := 0) (cv := [_]) (cells' := [_]) rfl rfl rfl rfl rfl rfl rfl rfl (by first | rfl | (simp [GS.one, hot4.2]; done)) (by decide) rfl) ?_))))))));rintro _ rfl;refine zG (_::_::_::_::(seg encI wsn3 moved ++ (seg encI wsn2 rest ++ C))) rfl (zN (zS (zU rfl (zM R4 (zM R4 ?_)))));obtain ⟨a26, hia26, ea26, h⟩ := el_some h;refine TO.fact (rdl_at (Rdl.gs (C := C) (GSo true encL all14)) (memS (memS (memS (memS (memG (memG mem0)))))) hia26 ea26) (fun hp=>?_);obtain ⟨pa26, hpa26, hva26⟩ := hp;refine zV R3 (hva26 ⟨rfl, rfl⟩ rfl rfl) (zV R3 (Val.faddr_e (fo := 0) hpa26 rfl rfl rfl) (zV R3 (Val.load_e (PtE.add hpa26 (by decide)) (memS (memS (memS (memS (memG (memG mem0)))))) ⟨_, rfl, rfl⟩ rfl rfl) (zM R4 ?_)));obtain ⟨c30, hc30⟩ := zY (a26.g = which);refine zV R3 (Val.eql hc30 rfl rfl) (zN ?_);obtain ⟨rfl, hc30, h⟩ | ⟨rfl, hc30, h⟩ := zI hc30 h
    ·refine zC rfl (zU rfl (zM R4 (zV R3 (vW 0 [_] R5 R4) (TO.less (Less.ownTrue (p := 1) rfl (.inr (by simp))) (zG (_::_::_::_::(seg encI wsn3 moved ++ (seg encI wsn2 rest ++ C))) rfl (TO.fact (own_cellS (p := 1) rfl) (fun hot4=>TO.eff rfl rfl rfl (Eff.new (New.buildSlice (en := encAV) (l := [v22]) (vs := [(_, _)]) (ws := [(_, [_])]) ⟨rfl, rfl⟩ rfl rfl rfl rfl (CellsL.cons rfl CellsL.nil) rfl rfl)) ?_)))))));rintro _ _ ⟨v33_2, rfl, rfl⟩;refine TO.less (Less.rowOwn (en := encAV) (l := [v22]) (p := 0) rfl) (zG (_::_::_::_::_::(seg encI wsn3 moved ++ (seg encI wsn2 rest ++ C))) rfl (TO.less (Pk.less (Pk.pick (p := 0) rfl (Pk.pick (p := 0) rfl (Pk.pick (p := 1) rfl (Pk.pick (p := 1) rfl (Pk.pick (p := 0) rfl Pk.refl)))))) (zG (_::_::_::_::(seg encI [v22] [[i]] ++ (seg encI wsn3 moved ++ (seg encI wsn2 rest ++ C)))) rfl ?_)));obtain ⟨hk34, h⟩ := chk_some h;refine TO.fact (nest_len (p := 2) rfl) (fun hl34=>TO.fact (nest_len (p := 0) rfl) (fun hm34=>TO.eff rfl rfl rfl (Eff.append_nest (b := 24) (ls := moved) (ls2 := [[i]]) (p := 2) (q := 0) ⟨rfl, rfl, rfl, ⟨_, rfl, rfl⟩, by decide, by decide⟩ rfl rfl rfl rfl rfl rfl (seg_ones (en := encI) hm34 (fun x hx => M4 x (List.mem_append_left _ hx))) (by decide) hk34) ?_));rintro v34 _ rfl;refine zG ([nestH false (.slice v33_2 0 (List.flatMap encAV.f [v22]).length true (List.length [v22]) (List.length [v22])) [[i]] [v22], .row b12 1 [v22], nestH true v34 (moved ++ [[i]]) (wsn3 ++ [v22]), nestH true vn2 rest wsn2] ++ (seg encI [v22] [[i]] ++ (seg encI wsn3 moved ++ (seg encI wsn2 rest ++ C)))) rfl (TO.less (Less.cat [nestH false (.slice v33_2 0 (List.flatMap encAV.f [v22]).length true (List.length [v22]) (List.length [v22])) [[i]] [v22], .row b12 1 [v22], nestH true v34 (moved ++ [[i]]) (wsn3 ++ [v22]), nestH true vn2 rest wsn2] hl34) (zG (_::_::_::_::(seg encI (wsn3 ++ [v22]) (moved ++ [[i]]) ++ (seg encI wsn2 rest ++ C))) rfl (zA R4 (zN (zE ?_)))));cases h;exact ⟨rfl, (v34, wsn3 ++ [v22], vn2, wsn2), (sb (pk [2,2,98,98] rfl))⟩
    refine zD rfl (zK ?_)
    show T _ _ _ _ _ _;apply T.joinA (r := j) (W := Unit) (fun j w => ⟨[], [(1, iv (which)), (2, iv (to)), (7, (GSo true encL all14).v), (8, vn3), (9, vn2), (10, iv (j)), (11, iv (i)), (12, .ptr b12 0 1)], .row b12 1 [v22] :: ownL false v22 encI [i] :: nestH true vn3 moved wsn3 :: nestH true vn2 rest wsn2 :: (seg encI wsn3 moved ++ (seg encI wsn2 rest ++ C))⟩) h
    ·intro j h
     show T _ _ _ _ _ _;apply T.joinA (r := j) (W := Unit) (fun j w => ⟨[], [(1, iv (which)), (2, iv (to)), (7, (GSo true encL all14).v), (8, vn3), (9, vn2), (10, iv (at_)), (11, iv (i)), (12, .ptr b12 0 1), (45, bv j)], .row b12 1 [v22] :: ownL false v22 encI [i] :: nestH true vn3 moved wsn3 :: nestH true vn2 rest wsn2 :: (seg encI wsn3 moved ++ (seg encI wsn2 rest ++ C))⟩) h
     ·intro j h;refine zT rfl (zM R4 (zM R4 ?_));obtain ⟨a37, hia37, ea37, h⟩ := el_some h;refine TO.fact (rdl_at (Rdl.gs (C := C) (GSo true encL all14)) (memS (memS (memS (memS (memG (memG mem0)))))) hia37 ea37) (fun hp=>?_);obtain ⟨pa37, hpa37, hva37⟩ := hp;refine zV R3 (hva37 ⟨rfl, rfl⟩ rfl rfl) (zV R3 (Val.faddr_e (fo := 0) hpa37 rfl rfl rfl) (zV R3 (Val.load_e (PtE.add hpa37 (by decide)) (memS (memS (memS (memS (memG (memG mem0)))))) ⟨_, rfl, rfl⟩ rfl rfl) (zM R4 ?_)));obtain ⟨c41, hc41⟩ := zY (a37.g = to);refine zV R3 (Val.eql hc41 rfl rfl) (zM R4 ?_);obtain ⟨rfl, hc41, h⟩ | ⟨rfl, hc41, h⟩ := zI hc41 h
      ·refine zM R4 ?_;obtain ⟨c44, hc44⟩ := zY (at_ < 0);refine zV R3 (Val.lss hc44 rfl rfl) (zP R6 (zN ?_));subst hc44;cases h;exact ⟨rfl, (), (sb .refl)⟩
      refine zO R3 (zO R3 (zP R6 (zN ?_)));cases h;exact ⟨rfl, (), (sb .refl)⟩
     ·rintro x45 _ h;obtain ⟨rfl, h⟩ | ⟨rfl, h⟩ := zZ h
      ·refine zC rfl (zT rfl (zM R4 (zV R3 (Val.len_nest (p := 3) rfl rfl rfl) (zA R4 (zN ?_)))));cases h;exact ⟨rfl, (), (sb .refl)⟩
      refine zD rfl (zK ?_);cases h;exact ⟨rfl, (), (sb .refl)⟩
    ·rintro at__2 _ h;refine zT rfl (zM R4 (zV R3 (vW 0 [_] R5 R4) (TO.less (Less.ownTrue (p := 1) rfl (.inr (by simp))) (zG (_::_::_::_::(seg encI wsn3 moved ++ (seg encI wsn2 rest ++ C))) rfl (TO.fact (own_cellS (p := 1) rfl) (fun hot4=>TO.eff rfl rfl rfl (Eff.new (New.buildSlice (en := encAV) (l := [v22]) (vs := [(_, _)]) (ws := [(_, [_])]) ⟨rfl, rfl⟩ rfl rfl rfl rfl (CellsL.cons rfl CellsL.nil) rfl rfl)) ?_))))));rintro _ _ ⟨v50_2, rfl, rfl⟩;refine TO.less (Less.rowOwn (en := encAV) (l := [v22]) (p := 0) rfl) (zG (_::_::_::_::_::(seg encI wsn3 moved ++ (seg encI wsn2 rest ++ C))) rfl (TO.less (Pk.less (Pk.pick (p := 0) rfl (Pk.pick (p := 0) rfl (Pk.pick (p := 1) rfl (Pk.pick (p := 1) rfl (Pk.pick (p := 0) rfl Pk.refl)))))) (zG (_::_::_::_::(seg encI [v22] [[i]] ++ (seg encI wsn3 moved ++ (seg encI wsn2 rest ++ C)))) rfl ?_)));obtain ⟨hk51, h⟩ := chk_some h;refine TO.fact (nest_len (p := 3) rfl) (fun hl51=>TO.fact (nest_len (p := 0) rfl) (fun hm51=>TO.eff rfl rfl rfl (Eff.append_nest (b := 24) (ls := rest) (ls2 := [[i]]) (p := 3) (q := 0) ⟨rfl, rfl, rfl, ⟨_, rfl, rfl⟩, by decide, by decide⟩ rfl rfl rfl rfl rfl rfl (seg_ones (en := encI) hm51 (fun x hx => M4 x (List.mem_append_left _ hx))) (by decide) hk51) ?_));rintro v51 _ rfl;refine zG ([nestH false (.slice v50_2 0 (List.flatMap encAV.f [v22]).length true (List.length [v22]) (List.length [v22])) [[i]] [v22], .row b12 1 [v22], nestH true vn3 moved wsn3, nestH true v51 (rest ++ [[i]]) (wsn2 ++ [v22])] ++ (seg encI [v22] [[i]] ++ (seg encI wsn3 moved ++ (seg encI wsn2 rest ++ C)))) rfl (TO.less (Less.cat2 [nestH false (.slice v50_2 0 (List.flatMap encAV.f [v22]).length true (List.length [v22]) (List.length [v22])) [[i]] [v22], .row b12 1 [v22], nestH true vn3 moved wsn3, nestH true v51 (rest ++ [[i]]) (wsn2 ++ [v22])] (B := seg encI wsn3 moved) hl51) (zG (_::_::_::_::(seg encI wsn3 moved ++ (seg encI (wsn2 ++ [v22]) (rest ++ [[i]]) ++ C))) rfl (zA R4 (zN ?_))));cases h;exact ⟨rfl, (vn3, wsn3, v51, wsn2 ++ [v22]), (sb (pk [2,2,98,98] rfl))⟩
   ·rintro ⟨at__2, moved_2, rest_2⟩ ⟨vn3_2, wsn3_2, vn2_2, wsn2_2⟩ h;dsimp only at h;dsimp only;refine zT rfl (zM R4 ?_);obtain ⟨hk20, h⟩ := chk_some h;refine zV R3 (Val.add rfl rfl hk20) (zA R4 (zN ?_));cases h;exact ⟨rfl, (vn3_2, wsn3_2, vn2_2, wsn2_2), (sb .refl)⟩
  refine zD rfl (zE ?_);cases h;exact ⟨ex_ne, ⟨rfl, (vn3, wsn3, vn2, wsn2), (sb .refl)⟩⟩
 ·rintro ⟨at_, moved, rest⟩ ⟨vn3, wsn3, vn2, wsn2⟩ h;dsimp only at h;dsimp only
  show T _ _ _ _ _ _;apply T.joinA (r := r) (W := Unit) (fun j w => ⟨[], [(8, vn3), (9, vn2), (10, iv (j))], nestH true vn3 moved wsn3 :: nestH true vn2 rest wsn2 :: (seg encI wsn3 moved ++ (seg encI wsn2 rest ++ C))⟩) h
  ·intro j h;refine zU rfl (zM R4 ?_);obtain ⟨c53, hc53⟩ := zY (at_ < 0);refine zV R3 (Val.lss hc53 rfl rfl) (zN ?_);obtain ⟨rfl, hc53, h⟩ | ⟨rfl, hc53, h⟩ := zI hc53 h
   ·refine zC rfl (zT rfl (zM R4 (zV R3 (Val.len_nest (p := 1) rfl rfl rfl) (zA R4 (zN ?_)))));cases h;exact ⟨rfl, (), (sb .refl)⟩
   refine zD rfl (zK ?_);cases h;exact ⟨rfl, (), (sb .refl)⟩
  ·rintro at__2 _ h;refine zS (T.drawE (l1 := [0, 1, 2, 3, 5, 7, 8, 9]) (l2 := [4, 6, 10, 11]) (by kernel_rfl) (by kernel_rfl) (TD1.floatN rfl rfl rfl rfl (New.buildSlice (en := encIt) (l := ([] : List Item)) (vs := []) (ws := []) ⟨rfl, rfl⟩ rfl rfl rfl rfl CellsL.nil rfl rfl) (fun v56=>yL R4 (Val.move rfl) (yL R4 (Val.move rfl) ?_))));obtain ⟨hk59, h⟩ := chk_some h;refine TD1.fact (own_shapeS (p := 2) rfl) (fun hsh59=>?_);obtain ⟨w59, hPw59, hvw59⟩ := slice_take hsh59 hk59;refine yR R4 (hvw59 (p := 2) rfl ⟨rfl, rfl⟩ rfl (.some rfl)) (yL R4 (Val.move rfl) (yL R4 (Val.move rfl) (yL R4 (Val.move rfl) ?_)));obtain ⟨hk65, h⟩ := chk_some h;refine TD1.fact (own_shapeS (p := 2) rfl) (fun hsh65=>?_);obtain ⟨w65, hPw65, hvw65⟩ := slice_drop hsh65 hk65;refine yR R4 (hvw65 (p := 2) rfl ⟨rfl, rfl⟩ rfl (.some rfl)) (TD1.over (fun v => sameC_refl v) (all_cons (⟨_, rfl, (hvw65 (p := 2) rfl ⟨rfl, rfl⟩ rfl (.some rfl))⟩) (all_cons (⟨_, rfl, (hvw59 (p := 2) rfl ⟨rfl, rfl⟩ rfl (.some rfl))⟩) all_nil)) (TD2.less (Less.floatOwn (en := encIt) (l := ([] : List Item)) (p := 0) rfl) (yG (_::_::_::(seg encI wsn3 moved ++ (seg encI wsn2 rest ++ C))) rfl (yG (_::_::_::(seg encI wsn3 moved ++ (seg encI wsn2 rest ++ C))) rfl ?_))));obtain ⟨hk60, h⟩ := chk_some h;refine TD2.fact (nest_len (p := 2) rfl) (fun hm60=>TD2.heavy (fun v => sameC_refl v) rfl (by decide) rfl rfl (OpS.eff (Eff.append_nestT (b := 24) (ls := ([] : List (List Int))) (ls2 := rest) (p := 0) (q := 2) ⟨rfl, rfl, rfl, ⟨_, rfl, rfl⟩, by decide, by decide⟩ rfl rfl rfl rfl hPw59 aO rfl rfl (seg_ones (en := encI) hm60 (fun x hx => M3 x (List.mem_append_right _ (List.mem_append_left _ hx)))) (by decide) hk60)) ?_);rintro v60 _ rfl;refine ⟨(all_cons (.inr ⟨_, rfl, (hvw65 (p := 2) rfl ⟨rfl, rfl⟩ rfl (.some rfl))⟩) (all_cons (.inl (by kernel_rfl)) all_nil)), (all_cons (.inl (by kernel_rfl)) all_nil), ?_⟩;refine yG (_::_::_::(seg encI wsn3 moved ++ (seg encI wsn2 rest ++ C))) rfl ?_;obtain ⟨hk62, h⟩ := chk_some h;refine TD2.fact (nest_len (p := 1) rfl) (fun hm62=>TD2.heavy (fun v => sameC_refl v) rfl (by decide) rfl rfl (OpS.eff (Eff.append_nest (b := 24) (ls := (List.take (Int.toNat at__2) rest)) (ls2 := moved) (p := 0) (q := 1) ⟨rfl, rfl, rfl, ⟨_, rfl, rfl⟩, by decide, by decide⟩ rfl rfl rfl rfl rfl rfl (seg_ones (en := encI) hm62 (fun x hx => M3 x (List.mem_append_left _ hx))) (by decide) hk62)) ?_);rintro v62 _ rfl;refine ⟨(all_cons (.inr ⟨_, rfl, (hvw65 (p := 2) rfl ⟨rfl, rfl⟩ rfl (.some rfl))⟩) (all_cons (.inl (by kernel_rfl)) all_nil)), (all_cons (.inl (by kernel_rfl)) all_nil), ?_⟩;refine yG (_::_::_::(seg encI wsn3 moved ++ (seg encI wsn2 rest ++ C))) rfl ?_;obtain ⟨hk66, h⟩ := chk_some h;refine TD2.fact (nest_len (p := 2) rfl) (fun hm66=>TD2.heavy (fun v => sameC_refl v) rfl (by decide) rfl rfl (OpS.eff (Eff.append_nestD (b := 24) (ls := ((List.take (Int.toNat at__2) rest) ++ moved)) (ls2 := rest) (p := 0) (q := 2) ⟨rfl, rfl, rfl, ⟨_, rfl, rfl⟩, by decide, by decide⟩ rfl rfl rfl rfl hm66 hPw65 aO rfl rfl (seg_ones (en := encI) hm66 (fun x hx => M3 x (List.mem_append_right _ (List.mem_append_left _ hx)))) (by decide) hk66)) ?_)
   rintro v66 _ rfl;refine ⟨(all_cons (.inl (by kernel_rfl)) (all_cons (.inl (by kernel_rfl)) all_nil)), (all_cons (.inl (by kernel_rfl)) all_nil), ?_⟩;refine yG (_::_::_::(seg encI wsn3 moved ++ (seg encI wsn2 rest ++ C))) rfl (yG ([nestH false v66 (((List.take (Int.toNat at__2) rest) ++ moved) ++ (List.drop (Int.toNat at__2) rest)) (((List.take (Int.toNat at__2) wsn2) ++ wsn3) ++ (List.drop (Int.toNat at__2) wsn2)), nestH true vn3 moved wsn3, nestH true vn2 rest wsn2] ++ (seg encI wsn3 moved ++ (seg encI wsn2 rest ++ C))) rfl (TD2.less (Less.carry [nestH false v66 (((List.take (Int.toNat at__2) rest) ++ moved) ++ (List.drop (Int.toNat at__2) rest)) (((List.take (Int.toNat at__2) wsn2) ++ wsn3) ++ (List.drop (Int.toNat at__2) wsn2)), nestH true vn3 moved wsn3, nestH true vn2 rest wsn2] (Int.toNat at__2) hm62 hm66) (yG (_::_::_::(seg encI (((List.take (Int.toNat at__2) wsn2) ++ wsn3) ++ (List.drop (Int.toNat at__2) wsn2)) (((List.take (Int.toNat at__2) rest) ++ moved) ++ (List.drop (Int.toNat at__2) rest)) ++ C)) rfl (yM R4 (Val.assign rfl) (TD2.nil (zR ?_))))));cases h;exact ⟨rfl, _, rfl, ⟨(v66, (((List.take (Int.toNat at__2) wsn2) ++ wsn3) ++ (List.drop (Int.toNat at__2) wsn2))), rfl, (pk [0,98,98] rfl)⟩⟩
theorem w_l_carried (b_Signed : Int) (b_Gatherings : GS encG) (which : Int) (to : Int) (r : (List (List Int))) (h : P_l_carried b_Signed b_Gatherings.l which to = some r) : Comes (EL 2) 23 [.agg [iv (b_Signed), b_Gatherings.v], iv (which), iv (to)] ((GSo false encIt (List.map (fun x => (⟨GSo true encI x⟩ : Item)) r)).v) :=
 TF.run (tf_l_carried (Nat.le_refl _) (RdT.gs b_Gatherings) h) fun w => (.nestIt (p := 0) rfl (fun x hx => M1 x (List.mem_append_left _ hx)))
set_option maxRecDepth 10000 in
theorem tf_law_CopyWhole {k : Nat} (hk : 7 ≤ k) {C : List Thing} {b_Signed : Int} {v_b_Gatherings : AV} {b_Gatherings : List Gat} {x_0 : UInt16} {x_1 : UInt16} {x_2 : UInt16} {x_3 : UInt16} (ht_b_Gatherings : RdT encG v_b_Gatherings b_Gatherings) {r : Bool} (h : P_law_CopyWhole b_Signed b_Gatherings x_0 x_1 x_2 x_3 = some r) :
  TF (EL k) 5 [.agg [iv (b_Signed), v_b_Gatherings], .agg [ivk .u16 ((x_0.toNat : Int)), ivk .u16 ((x_1.toNat : Int)), ivk .u16 ((x_2.toNat : Int)), ivk .u16 ((x_3.toNat : Int))]] C (RepF (fun (w : Unit) => bv r) (fun (w : Unit) => C)) := by
 unfold P_law_CopyWhole at h
 have h_b_Gatherings : Rdl C encG v_b_Gatherings b_Gatherings := RdT.rdl ht_b_Gatherings;refine TF.enter (fn := Go.Proofs.Try.f5) rfl rfl rfl rfl rfl (zU rfl (zQ 2 [_,_] R7 (fun b2=>zQ 4 [_,_,_,_] R7 (fun b3=>zA R4 (zN (zS (zU rfl (zV R3 (vW 1 [_,_] R5 R4) ?_))))))));obtain ⟨y21, hr21, h⟩ := andx_some h;obtain ⟨g, hgg, hrg⟩ := Rdl.reif (hs := .row b3 1 [ivk .u16 ((x_0.toNat : Int)), ivk .u16 ((x_1.toNat : Int)), ivk .u16 ((x_2.toNat : Int)), ivk .u16 ((x_3.toNat : Int))] :: .row b2 2 [iv (b_Signed), v_b_Gatherings] :: C) h_b_Gatherings M2 (ReifL.flat encG_tr);refine TO.call rfl rfl rfl rfl rfl (orcL rfl aD) (.cons (.agg (.cons .lit (.cons (hrg _) .nil))) .nil) (sem_of (w_l_whole b_Signed g _ (by try rw [hgg]; exact hr21))) (zV R3 (Val.not rfl) (zN ?_));obtain ⟨rfl, h⟩ | ⟨rfl, h⟩ := zZ h
 ·refine zD rfl (zK (zU rfl (zV R3 (vW 1 [_,_] R5 R4) ?_)));obtain ⟨y35, hr35, h⟩ := andx_some h;obtain ⟨g_2, hgg_2, hrg_2⟩ := Rdl.reif (hs := .row b3 1 [ivk .u16 ((x_0.toNat : Int)), ivk .u16 ((x_1.toNat : Int)), ivk .u16 ((x_2.toNat : Int)), ivk .u16 ((x_3.toNat : Int))] :: .row b2 2 [iv (b_Signed), v_b_Gatherings] :: C) h_b_Gatherings M2 (ReifL.flat encG_tr);refine TO.call rfl rfl rfl rfl rfl (orcL rfl aD) (.cons (.agg (.cons .lit (.cons (hrg_2 _) .nil))) .nil) (sem_of (w_l_full b_Signed g_2 _ (by try rw [hgg_2]; exact hr35))) (zA R4 (zN ?_))
  show T _ _ _ _ _ _;apply T.join (r := r) (W := Unit) (fun j w => ⟨[], [(2, .ptr b2 0 2), (3, .ptr b3 0 4), (7, (GSo true encIt (List.map (fun x => (⟨GSo true encI x⟩ : Item)) y35)).v)], .row b3 1 [ivk .u16 ((x_0.toNat : Int)), ivk .u16 ((x_1.toNat : Int)), ivk .u16 ((x_2.toNat : Int)), ivk .u16 ((x_3.toNat : Int))] :: .row b2 2 [iv (b_Signed), v_b_Gatherings] :: C⟩) h
  ·intro j h
   show T _ _ _ _ _ _;apply T.joinA (r := j) (W := Unit) (fun j w => ⟨[], [(2, .ptr b2 0 2), (3, .ptr b3 0 4), (7, (GSo true encIt (List.map (fun x => (⟨GSo true encI x⟩ : Item)) y35)).v), (43, bv j)], .row b3 1 [ivk .u16 ((x_0.toNat : Int)), ivk .u16 ((x_1.toNat : Int)), ivk .u16 ((x_2.toNat : Int)), ivk .u16 ((x_3.toNat : Int))] :: .row b2 2 [iv (b_Signed), v_b_Gatherings] :: C⟩) h
   ·intro j h;refine zT rfl (zM R4 (zV R3 (Val.len_gs rfl rfl) ?_));obtain ⟨c38, hc38⟩ := zY (((List.map (fun x => (⟨GSo true encI x⟩ : Item)) y35).length : Int) = 0);refine zV R3 (Val.eql hc38 rfl rfl) (zM R4 ?_);obtain ⟨rfl, hc38, h⟩ | ⟨rfl, hc38, h⟩ := zI hc38 h
    ·refine zO R3 (zO R3 (zO R3 (zP R6 (zN ?_))));cases h;exact ⟨rfl, (), (sb .refl)⟩
    refine zM R4 (zV R3 (Val.len_gs rfl rfl) ?_);obtain ⟨c42, hc42⟩ := zY (((List.map (fun x => (⟨GSo true encI x⟩ : Item)) y35).length : Int) = 120);refine zV R3 (Val.eql hc42 rfl rfl) (zP R6 (zN ?_));subst hc42;cases h;exact ⟨rfl, (), (sb .refl)⟩
   ·rintro x43 _ h;obtain ⟨rfl, h⟩ | ⟨rfl, h⟩ := zZ h
    ·refine zC rfl (zU rfl (TO.call rfl rfl rfl rfl rfl orcA .nil rfl (zA R4 (zN (zR ?_)))));cases h;exact ⟨ret_ne, ⟨rfl, _, rfl, ⟨(), rfl, (pk [98,98] rfl)⟩⟩⟩
    refine zD rfl (zK ?_);cases h;exact ⟨rfl, (), (sb .refl)⟩
  ·rintro _ _ h;refine zU rfl (zV R3 (Val.iaddr_array (m := 4) rfl rfl rfl rfl (by decide)) (zL 0 R3 R6 ?_));obtain ⟨hk47, h⟩ := chk_some h;refine zV R3 (Val.conv (cv_ty44_3 hk47) rfl) (zM R4 (zV R3 (Val.len_gs rfl rfl) ?_));obtain ⟨hk50, h⟩ := chk_some h;refine zV R3 (Val.rem rfl rfl hk50) (zA R4 (zN (zU rfl (zV R3 (vW 1 [_,_] R5 R4) (zM R4 ?_)))));obtain ⟨mate53, hr53, h⟩ := andx_some h;obtain ⟨g_3, hgg_3, hrg_3⟩ := Rdl.reif (hs := .row b3 1 [ivk .u16 ((x_0.toNat : Int)), ivk .u16 ((x_1.toNat : Int)), ivk .u16 ((x_2.toNat : Int)), ivk .u16 ((x_3.toNat : Int))] :: .row b2 2 [iv (b_Signed), v_b_Gatherings] :: C) h_b_Gatherings M2 (ReifL.flat encG_tr);refine TO.call rfl rfl rfl rfl rfl (orcL rfl aD) (.cons (.agg (.cons .lit (.cons (hrg_3 _) .nil))) (.cons .lit .nil)) (sem_of (w_r1_Pair b_Signed g_3 (Int.tmod (x_0.toNat : Int) ((List.map (fun x => (⟨GSo true encI x⟩ : Item)) y35).length : Int)) _ (by try rw [hgg_3]; exact hr53))) (zA R4 (zN (zS (T.draw (fun v => sameC_refl v) (l1 := [0, 1, 2, 3, 4, 5, 6, 7, 8, 9, 10, 11, 12, 13, 14, 15, 16]) (l2 := []) (by kernel_rfl) (by kernel_rfl) (zV R3 (Val.iaddr_array (m := 4) rfl rfl rfl rfl (by decide)) (zL 0 R3 R6 ?_))))));obtain ⟨hk56, h⟩ := chk_some h;refine zV R3 (Val.conv (cv_ty44_3 hk56) rfl) (zF 1 R6 (zL 1 R3 R6 (zV R3 (Val.len_l h_b_Gatherings M2 rfl rfl) ?_)));obtain ⟨hk60, h⟩ := chk_some h;refine zV R3 (Val.rem rfl rfl hk60) (zV R3 (Val.iaddr_array (m := 4) rfl rfl rfl rfl (by decide)) (zL 0 R3 R6 ?_));obtain ⟨hk63, h⟩ := chk_some h;refine zV R3 (Val.conv (cv_ty44_3 hk63) rfl) (zF 1 R6 (zL 1 R3 R6 (zV R3 (Val.len_l h_b_Gatherings M2 rfl rfl) ?_)));obtain ⟨hk67, h⟩ := chk_some h;refine zV R3 (Val.add rfl rfl hk67) ?_;obtain ⟨hk68, h⟩ := chk_some h;refine zV R3 (Val.rem rfl rfl hk68) (zA R4 (zA R4 (zN (zU rfl (zV R3 (vW 1 [_,_] R5 R4) (zM R4 (zM R4 ?_)))))));obtain ⟨y72, hr72, h⟩ := andx_some h;obtain ⟨g_4, hgg_4, hrg_4⟩ := Rdl.reif (hs := .row b3 1 [ivk .u16 ((x_0.toNat : Int)), ivk .u16 ((x_1.toNat : Int)), ivk .u16 ((x_2.toNat : Int)), ivk .u16 ((x_3.toNat : Int))] :: .row b2 2 [iv (b_Signed), v_b_Gatherings] :: C) h_b_Gatherings M2 (ReifL.flat encG_tr);refine TO.call rfl rfl rfl rfl rfl (orcL rfl aD) (.cons (.agg (.cons .lit (.cons (hrg_4 _) .nil))) (.cons .lit (.cons .lit .nil))) (sem_of (w_l_carried b_Signed g_4 (Int.tmod (x_1.toNat : Int) (b_Gatherings.length : Int)) (Int.tmod (x_2.toNat : Int) ((b_Gatherings.length : Int) + 1)) _ (by try rw [hgg_4]; exact hr72))) (zA R4 (zN (zS (T.drawE (l1 := [0, 1, 2, 3, 5, 6, 7, 9, 10, 11, 12, 13, 15, 16, 17, 18, 19, 20, 21, 22, 23, 24, 25, 26, 27, 28, 29, 30, 32]) (l2 := [4, 8, 14, 31, 33, 34]) (by kernel_rfl) (by kernel_rfl) (yL R4 (Val.move rfl) (yL R4 (Val.move rfl) (yL R4 (Val.move rfl) (yL R4 (Val.move rfl) (yL R4 (Val.move rfl) (yL R4 (Val.move rfl) (yL R4 (Val.move rfl) (yL R4 (Val.move rfl) (yL R4 (Val.iaddr_array (m := 4) rfl rfl rfl rfl (by decide)) (yR R4 (vR (p := 0) R6) ?_))))))))))))));obtain ⟨hk85, h⟩ := chk_some h;refine yL R4 (Val.conv (cv_ty44_3 hk85) rfl) (yL R4 (Val.buildC (cs := [_]) (vs := []) (ws := []) rfl rfl CellsL.nil rfl) (yL R4 (Val.move rfl) (yL R4 (Val.move rfl) ?_)))
   obtain ⟨hk90, h⟩ := chk_some h;refine yL R4 (Val.add rfl rfl hk90) (yL R4 (Val.iaddr_array (m := 4) rfl rfl rfl rfl (by decide)) (yR R4 (vR (p := 0) R6) ?_));obtain ⟨hk93, h⟩ := chk_some h;refine yL R4 (Val.conv (cv_ty44_3 hk93) rfl) (yL R4 (Val.move rfl) (yR R4 (Val.len_gs rfl rfl) (yL R4 (Val.move rfl) ?_)));obtain ⟨hk97, h⟩ := chk_some h;refine yL R4 (Val.sub rfl rfl hk97) ?_;obtain ⟨hk98, h⟩ := chk_some h;refine yL R4 (Val.rem rfl rfl hk98) ?_;obtain ⟨hk99, h⟩ := chk_some h;refine yL R4 (Val.add rfl rfl hk99) (yL R4 (Val.move rfl) (yL R4 (Val.move rfl) ?_));obtain ⟨a102, hia102, ea102, h⟩ := el_some h;refine TD1.fact (rdl_at (Rdl.gs (C := C) (GSo true encIt (List.map (fun x => (⟨GSo true encI x⟩ : Item)) y35))) M2 hia102 ea102) (fun hp=>?_);obtain ⟨pa102, hpa102, hva102⟩ := hp;refine yL R4 (hva102 ⟨rfl, rfl⟩ rfl rfl) (yR R4 (Val.load_es (c := [_]) hpa102 M2 ⟨⟨_, rfl, rfl⟩, rfl, by decide⟩ rfl rfl rfl) (yL R4 (Val.move rfl) (TD1.over (fun v => sameC_refl v) (all_cons (⟨_, rfl, (Val.load_es (c := [_]) hpa102 M2 ⟨⟨_, rfl, rfl⟩, rfl, by decide⟩ rfl rfl rfl)⟩) (all_cons (⟨_, rfl, (Val.len_gs rfl rfl)⟩) (all_cons (⟨_, rfl, (vR (p := 0) R6)⟩) (all_cons (⟨_, rfl, (vR (p := 0) R6)⟩) all_nil)))) ?_)));obtain ⟨y77, hr77, h⟩ := andx_some h;refine TD2.heavy (fun v => sameC_refl v) rfl (by decide) rfl rfl (OpS.callV rfl rfl rfl rfl (orcN rfl) (RepF.conv (tf_l_without aD (RdT.gs (GSo true encIt (List.map (fun x => (⟨GSo true encI x⟩ : Item)) y35))) hr77))) ?_;rintro w77 _ ⟨w77, rfl, rfl⟩;refine ⟨(all_cons (.inr ⟨_, rfl, (Val.load_es (c := [_]) hpa102 M3 ⟨⟨_, rfl, rfl⟩, rfl, by decide⟩ rfl rfl rfl)⟩) (all_cons (.inr ⟨_, rfl, (Val.len_gs rfl rfl)⟩) (all_cons (.inr ⟨_, rfl, (vR (p := 1) R6)⟩) (all_cons (.inr ⟨_, rfl, (vR (p := 1) R6)⟩) all_nil)))), all_nil, ?_⟩;refine yG (_::_::_::C) rfl ?_;obtain ⟨y81, hr81, h⟩ := andx_some h;refine TD2.heavy (fun v => sameC_refl v) rfl (by decide) rfl rfl (OpS.callV rfl rfl rfl rfl (orcN rfl) (RepF.conv (tf_l_without aD (RdT.gs (GSo true encIt (List.map (fun x => (⟨GSo true encI x⟩ : Item)) y35))) hr81))) ?_;rintro w81 _ ⟨w81, rfl, rfl⟩;refine ⟨(all_cons (.inr ⟨_, rfl, (Val.load_es (c := [_]) hpa102 M4 ⟨⟨_, rfl, rfl⟩, rfl, by decide⟩ rfl rfl rfl)⟩) (all_cons (.inr ⟨_, rfl, (Val.len_gs rfl rfl)⟩) (all_cons (.inr ⟨_, rfl, (vR (p := 2) R6)⟩) (all_cons (.inr ⟨_, rfl, (vR (p := 2) R6)⟩) all_nil)))), all_nil, ?_⟩;refine yG (_::_::_::_::C) rfl ?_;obtain ⟨y87, hr87, h⟩ := andx_some h;refine TD2.heavy (fun v => sameC_refl v) rfl (by decide) rfl rfl (OpS.callV rfl rfl rfl rfl (orcN rfl) (RepF.conv (tf_l_with aD (RdT.gs (GSo true encIt (List.map (fun x => (⟨GSo true encI x⟩ : Item)) y35))) hr87))) ?_;rintro w87 _ ⟨w87, rfl, rfl⟩;refine ⟨(all_cons (.inr ⟨_, rfl, (Val.load_es (c := [_]) hpa102 M5 ⟨⟨_, rfl, rfl⟩, rfl, by decide⟩ rfl rfl rfl)⟩) (all_cons (.inr ⟨_, rfl, (Val.len_gs rfl rfl)⟩) (all_cons (.inr ⟨_, rfl, (vR (p := 3) R6)⟩) (all_cons (.inl (by kernel_rfl)) all_nil)))), all_nil, ?_⟩;refine yG (_::_::_::_::_::C) rfl ?_;obtain ⟨y104, hr104, h⟩ := andx_some h
   refine TD2.heavy (fun v => sameC_refl v) rfl (by decide) rfl rfl (OpS.callV rfl rfl rfl rfl (orcN rfl) (RepF.conv (tf_l_with aD (RdT.gs (GSo true encIt (List.map (fun x => (⟨GSo true encI x⟩ : Item)) y35))) hr104))) ?_;rintro w104 _ ⟨w104, rfl, rfl⟩;refine ⟨(all_cons (.inl (by kernel_rfl)) (all_cons (.inl (by kernel_rfl)) (all_cons (.inl (by kernel_rfl)) (all_cons (.inl (by kernel_rfl)) all_nil)))), all_nil, ?_⟩;refine yG (_::_::_::_::_::_::C) rfl (TD2.fact (own_cellS (p := 3) rfl) (fun hot3=>TD2.fact (own_cellS (p := 2) rfl) (fun hot4=>TD2.fact (own_cellS (p := 1) rfl) (fun hot5=>TD2.fact (own_cellS (p := 0) rfl) (fun hot6=>?_)))))
   have hL106 : RdA (ownL true w77 encIt y77 :: ownL true w81 encIt y81 :: ownL false w87 encIt y87 :: ownL false w104 encIt y104 :: C) encIt [(GSo true encIt (List.map (fun x => (⟨GSo true encI x⟩ : Item)) y35)).v, w77, w81, w87, w104, (GSo false encIt (List.map (fun x => (⟨GSo true encI x⟩ : Item)) y72)).v] ([List.map (fun x => (⟨GSo true encI x⟩ : Item)) y35, y77, y81, y87, y104, List.map (fun x => (⟨GSo true encI x⟩ : Item)) y72] : List (List Item)) := (.cons (.gs (GSo true encIt (List.map (fun x => (⟨GSo true encI x⟩ : Item)) y35))) (.cons (.inr ⟨_, List.mem_of_getElem? (i := 0) rfl⟩) (.cons (.inr ⟨_, List.mem_of_getElem? (i := 1) rfl⟩) (.cons (.inr ⟨_, List.mem_of_getElem? (i := 2) rfl⟩) (.cons (.inr ⟨_, List.mem_of_getElem? (i := 3) rfl⟩) (.cons (.gs (GSo false encIt (List.map (fun x => (⟨GSo true encI x⟩ : Item)) y72))) .nil))))));refine TD2.heavy (fun v => sameC_refl v) rfl (by decide) rfl rfl (OpS.eff (Eff.new (New.buildSlice (en := encAV) (l := [(GSo true encIt (List.map (fun x => (⟨GSo true encI x⟩ : Item)) y35)).v, w77, w81, w87, w104, (GSo false encIt (List.map (fun x => (⟨GSo true encI x⟩ : Item)) y72)).v]) (vs := [(_, _), (_, _), (_, _), (_, _), (_, _), (_, _)]) (ws := [(_, [_]), (_, [_]), (_, [_]), (_, [_]), (_, [_]), (_, [_])]) ⟨rfl, rfl⟩ rfl rfl rfl rfl (CellsL.cons (GS.cells (GSo true encIt (List.map (fun x => (⟨GSo true encI x⟩ : Item)) y35))).1 (CellsL.cons hot3.1 (CellsL.cons hot4.1 (CellsL.cons hot5.1 (CellsL.cons hot6.1 (CellsL.cons (GS.cells (GSo false encIt (List.map (fun x => (⟨GSo true encI x⟩ : Item)) y72))).1 CellsL.nil)))))) rfl rfl))) ?_;rintro _ _ ⟨v106_2, rfl, rfl⟩;refine ⟨(all_cons (.inl (by kernel_rfl)) (all_cons (.inl (by kernel_rfl)) (all_cons (.inl (by kernel_rfl)) (all_cons (.inl (by kernel_rfl)) all_nil)))), all_nil, ?_⟩;refine TD2.less (Less.rowOwn (en := encAV) (l := [(GSo true encIt (List.map (fun x => (⟨GSo true encI x⟩ : Item)) y35)).v, w77, w81, w87, w104, (GSo false encIt (List.map (fun x => (⟨GSo true encI x⟩ : Item)) y72)).v]) (p := 0) rfl) (yG (_::_::_::_::_::_::_::C) rfl (yM R4 (Val.assign rfl) (TD2.nil ?_)))
   show T _ _ _ _ _ _;apply T.join (r := r) (W := Unit) (fun j w => ⟨[], [], ownL false (.slice v106_2 0 (List.flatMap encAV.f [(GSo true encIt (List.map (fun x => (⟨GSo true encI x⟩ : Item)) y35)).v, w77, w81, w87, w104, (GSo false encIt (List.map (fun x => (⟨GSo true encI x⟩ : Item)) y72)).v]).length true (List.length [(GSo true encIt (List.map (fun x => (⟨GSo true encI x⟩ : Item)) y35)).v, w77, w81, w87, w104, (GSo false encIt (List.map (fun x => (⟨GSo true encI x⟩ : Item)) y72)).v]) (List.length [(GSo true encIt (List.map (fun x => (⟨GSo true encI x⟩ : Item)) y35)).v, w77, w81, w87, w104, (GSo false encIt (List.map (fun x => (⟨GSo true encI x⟩ : Item)) y72)).v])) encAV [(GSo true encIt (List.map (fun x => (⟨GSo true encI x⟩ : Item)) y35)).v, w77, w81, w87, w104, (GSo false encIt (List.map (fun x => (⟨GSo true encI x⟩ : Item)) y72)).v] :: ownL false w104 encIt y104 :: ownL false w87 encIt y87 :: ownL true w81 encIt y81 :: ownL true w77 encIt y77 :: .row b2 2 [iv (b_Signed), v_b_Gatherings] :: C⟩) h
   ·intro j h;refine zU rfl (zA R4 (zN (zB ?_)))
    show T _ _ _ _ _ _;apply T.iter (r := j) (W := Unit) (fun j w => ⟨[], [(2, .ptr b2 0 2), (7, (GSo true encIt (List.map (fun x => (⟨GSo true encI x⟩ : Item)) y35)).v), (12, (GSo false encIt (List.map (fun x => (⟨GSo true encI x⟩ : Item)) y72)).v), (13, (.slice v106_2 0 (List.flatMap encAV.f [(GSo true encIt (List.map (fun x => (⟨GSo true encI x⟩ : Item)) y35)).v, w77, w81, w87, w104, (GSo false encIt (List.map (fun x => (⟨GSo true encI x⟩ : Item)) y72)).v]).length true (List.length [(GSo true encIt (List.map (fun x => (⟨GSo true encI x⟩ : Item)) y35)).v, w77, w81, w87, w104, (GSo false encIt (List.map (fun x => (⟨GSo true encI x⟩ : Item)) y72)).v]) (List.length [(GSo true encIt (List.map (fun x => (⟨GSo true encI x⟩ : Item)) y35)).v, w77, w81, w87, w104, (GSo false encIt (List.map (fun x => (⟨GSo true encI x⟩ : Item)) y72)).v]))), (14, iv (j))], ownL false (.slice v106_2 0 (List.flatMap encAV.f [(GSo true encIt (List.map (fun x => (⟨GSo true encI x⟩ : Item)) y35)).v, w77, w81, w87, w104, (GSo false encIt (List.map (fun x => (⟨GSo true encI x⟩ : Item)) y72)).v]).length true (List.length [(GSo true encIt (List.map (fun x => (⟨GSo true encI x⟩ : Item)) y35)).v, w77, w81, w87, w104, (GSo false encIt (List.map (fun x => (⟨GSo true encI x⟩ : Item)) y72)).v]) (List.length [(GSo true encIt (List.map (fun x => (⟨GSo true encI x⟩ : Item)) y35)).v, w77, w81, w87, w104, (GSo false encIt (List.map (fun x => (⟨GSo true encI x⟩ : Item)) y72)).v])) encAV [(GSo true encIt (List.map (fun x => (⟨GSo true encI x⟩ : Item)) y35)).v, w77, w81, w87, w104, (GSo false encIt (List.map (fun x => (⟨GSo true encI x⟩ : Item)) y72)).v] :: ownL false w104 encIt y104 :: ownL false w87 encIt y87 :: ownL true w81 encIt y81 :: ownL true w77 encIt y77 :: .row b2 2 [iv (b_Signed), v_b_Gatherings] :: C⟩) (w0 := ()) h
    ·exact (sb (pk [0,0,0,0,0,1,98] rfl))
    rintro i _ a h;unfold P_law_CopyWhole_L1 at h;refine zS (zU rfl (zM R4 (zM R4 (zV R3 (Val.len_own (p := 0) (m := 6) rfl rfl rfl) ?_))));obtain ⟨c110, hc110⟩ := zY (i < ((6 : Nat) : Int));refine zV R3 (Val.lss hc110 rfl rfl) (zN ?_);obtain ⟨rfl, hc110, h⟩ | ⟨rfl, hc110, h⟩ := zI hc110 h
    ·refine zC rfl (zK ?_)
     show T _ _ _ _ _ _;apply T.join (r := a) (W := Unit) (fun j w => ⟨[], [(2, .ptr b2 0 2), (7, (GSo true encIt (List.map (fun x => (⟨GSo true encI x⟩ : Item)) y35)).v), (12, (GSo false encIt (List.map (fun x => (⟨GSo true encI x⟩ : Item)) y72)).v), (13, (.slice v106_2 0 (List.flatMap encAV.f [(GSo true encIt (List.map (fun x => (⟨GSo true encI x⟩ : Item)) y35)).v, w77, w81, w87, w104, (GSo false encIt (List.map (fun x => (⟨GSo true encI x⟩ : Item)) y72)).v]).length true (List.length [(GSo true encIt (List.map (fun x => (⟨GSo true encI x⟩ : Item)) y35)).v, w77, w81, w87, w104, (GSo false encIt (List.map (fun x => (⟨GSo true encI x⟩ : Item)) y72)).v]) (List.length [(GSo true encIt (List.map (fun x => (⟨GSo true encI x⟩ : Item)) y35)).v, w77, w81, w87, w104, (GSo false encIt (List.map (fun x => (⟨GSo true encI x⟩ : Item)) y72)).v]))), (14, iv (i))], ownL false (.slice v106_2 0 (List.flatMap encAV.f [(GSo true encIt (List.map (fun x => (⟨GSo true encI x⟩ : Item)) y35)).v, w77, w81, w87, w104, (GSo false encIt (List.map (fun x => (⟨GSo true encI x⟩ : Item)) y72)).v]).length true (List.length [(GSo true encIt (List.map (fun x => (⟨GSo true encI x⟩ : Item)) y35)).v, w77, w81, w87, w104, (GSo false encIt (List.map (fun x => (⟨GSo true encI x⟩ : Item)) y72)).v]) (List.length [(GSo true encIt (List.map (fun x => (⟨GSo true encI x⟩ : Item)) y35)).v, w77, w81, w87, w104, (GSo false encIt (List.map (fun x => (⟨GSo true encI x⟩ : Item)) y72)).v])) encAV [(GSo true encIt (List.map (fun x => (⟨GSo true encI x⟩ : Item)) y35)).v, w77, w81, w87, w104, (GSo false encIt (List.map (fun x => (⟨GSo true encI x⟩ : Item)) y72)).v] :: ownL false w104 encIt y104 :: ownL false w87 encIt y87 :: ownL true w81 encIt y81 :: ownL true w77 encIt y77 :: .row b2 2 [iv (b_Signed), v_b_Gatherings] :: C⟩) h
     ·intro j h;refine zB (zU rfl (zA R4 (zN ?_)))
      show T _ _ _ _ _ _;apply T.joinA (r := j) (W := Unit) (fun j w => ⟨[], [(2, .ptr b2 0 2), (7, (GSo true encIt (List.map (fun x => (⟨GSo true encI x⟩ : Item)) y35)).v), (12, (GSo false encIt (List.map (fun x => (⟨GSo true encI x⟩ : Item)) y72)).v), (13, (.slice v106_2 0 (List.flatMap encAV.f [(GSo true encIt (List.map (fun x => (⟨GSo true encI x⟩ : Item)) y35)).v, w77, w81, w87, w104, (GSo false encIt (List.map (fun x => (⟨GSo true encI x⟩ : Item)) y72)).v]).length true (List.length [(GSo true encIt (List.map (fun x => (⟨GSo true encI x⟩ : Item)) y35)).v, w77, w81, w87, w104, (GSo false encIt (List.map (fun x => (⟨GSo true encI x⟩ : Item)) y72)).v]) (List.length [(GSo true encIt (List.map (fun x => (⟨GSo true encI x⟩ : Item)) y35)).v, w77, w81, w87, w104, (GSo false encIt (List.map (fun x => (⟨GSo true encI x⟩ : Item)) y72)).v]))), (14, iv (i)), (15, iv (j))], ownL false (.slice v106_2 0 (List.flatMap encAV.f [(GSo true encIt (List.map (fun x => (⟨GSo true encI x⟩ : Item)) y35)).v, w77, w81, w87, w104, (GSo false encIt (List.map (fun x => (⟨GSo true encI x⟩ : Item)) y72)).v]).length true (List.length [(GSo true encIt (List.map (fun x => (⟨GSo true encI x⟩ : Item)) y35)).v, w77, w81, w87, w104, (GSo false encIt (List.map (fun x => (⟨GSo true encI x⟩ : Item)) y72)).v]) (List.length [(GSo true encIt (List.map (fun x => (⟨GSo true encI x⟩ : Item)) y35)).v, w77, w81, w87, w104, (GSo false encIt (List.map (fun x => (⟨GSo true encI x⟩ : Item)) y72)).v])) encAV [(GSo true encIt (List.map (fun x => (⟨GSo true encI x⟩ : Item)) y35)).v, w77, w81, w87, w104, (GSo false encIt (List.map (fun x => (⟨GSo true encI x⟩ : Item)) y72)).v] :: ownL false w104 encIt y104 :: ownL false w87 encIt y87 :: ownL true w81 encIt y81 :: ownL true w77 encIt y77 :: .row b2 2 [iv (b_Signed), v_b_Gatherings] :: C⟩) h
      ·intro j h
       show T _ _ _ _ _ _;apply T.joinA (r := j) (W := Unit) (fun j w => ⟨[], [(2, .ptr b2 0 2), (7, (GSo true encIt (List.map (fun x => (⟨GSo true encI x⟩ : Item)) y35)).v), (12, (GSo false encIt (List.map (fun x => (⟨GSo true encI x⟩ : Item)) y72)).v), (13, (.slice v106_2 0 (List.flatMap encAV.f [(GSo true encIt (List.map (fun x => (⟨GSo true encI x⟩ : Item)) y35)).v, w77, w81, w87, w104, (GSo false encIt (List.map (fun x => (⟨GSo true encI x⟩ : Item)) y72)).v]).length true (List.length [(GSo true encIt (List.map (fun x => (⟨GSo true encI x⟩ : Item)) y35)).v, w77, w81, w87, w104, (GSo false encIt (List.map (fun x => (⟨GSo true encI x⟩ : Item)) y72)).v]) (List.length [(GSo true encIt (List.map (fun x => (⟨GSo true encI x⟩ : Item)) y35)).v, w77, w81, w87, w104, (GSo false encIt (List.map (fun x => (⟨GSo true encI x⟩ : Item)) y72)).v]))), (14, iv (i)), (15, iv (1)), (123, bv j)], ownL false (.slice v106_2 0 (List.flatMap encAV.f [(GSo true encIt (List.map (fun x => (⟨GSo true encI x⟩ : Item)) y35)).v, w77, w81, w87, w104, (GSo false encIt (List.map (fun x => (⟨GSo true encI x⟩ : Item)) y72)).v]).length true (List.length [(GSo true encIt (List.map (fun x => (⟨GSo true encI x⟩ : Item)) y35)).v, w77, w81, w87, w104, (GSo false encIt (List.map (fun x => (⟨GSo true encI x⟩ : Item)) y72)).v]) (List.length [(GSo true encIt (List.map (fun x => (⟨GSo true encI x⟩ : Item)) y35)).v, w77, w81, w87, w104, (GSo false encIt (List.map (fun x => (⟨GSo true encI x⟩ : Item)) y72)).v])) encAV [(GSo true encIt (List.map (fun x => (⟨GSo true encI x⟩ : Item)) y35)).v, w77, w81, w87, w104, (GSo false encIt (List.map (fun x => (⟨GSo true encI x⟩ : Item)) y72)).v] :: ownL false w104 encIt y104 :: ownL false w87 encIt y87 :: ownL true w81 encIt y81 :: ownL true w77 encIt y77 :: .row b2 2 [iv (b_Signed), v_b_Gatherings] :: C⟩) h
       ·intro j h;refine zT rfl (zM R4 ?_);obtain ⟨c114, hc114⟩ := zY (i = 0);refine zV R3 (Val.eql hc114 rfl rfl) (zM R4 ?_);obtain ⟨rfl, hc114, h⟩ | ⟨rfl, hc114, h⟩ := zI hc114 h
        ·refine zO R3 (zO R3 (zO R3 (zO R3 (zO R3 (zO R3 (zO R3 (zP R6 (zN ?_))))))));cases h;exact ⟨rfl, (), (sb .refl)⟩
        refine zM R4 ?_;obtain ⟨c117, hc117⟩ := zY (i = 5);refine zV R3 (Val.eql hc117 rfl rfl) (zM R4 ?_);obtain ⟨rfl, hc117, h⟩ | ⟨rfl, hc117, h⟩ := zI hc117 h
        ·refine zM R4 (zM R4 ?_);obtain ⟨y121, hr121, h⟩ := andx_some h;refine TO.call rfl rfl rfl rfl rfl (orcL rfl aD) (.cons .gs (.cons .gs .nil)) (sem_of (w_l_same (GSo false encIt (List.map (fun x => (⟨GSo true encI x⟩ : Item)) y72)) (GSo true encIt (List.map (fun x => (⟨GSo true encI x⟩ : Item)) y35)) _ (by exact hr121))) (zP R6 (zP R6 (zN ?_)));cases h;exact ⟨rfl, (), (sb .refl)⟩
        refine zO R3 (zO R3 (zO R3 (zP R6 (zP R6 (zN ?_)))));cases h;exact ⟨rfl, (), (sb .refl)⟩
       ·rintro x123 _ h;obtain ⟨rfl, h⟩ | ⟨rfl, h⟩ := zZ h
        ·refine zC rfl (zT rfl (zA R4 (zN ?_)));cases h;exact ⟨rfl, (), (sb .refl)⟩
        refine zD rfl (zK ?_);cases h;exact ⟨rfl, (), (sb .refl)⟩
      ·rintro want _ h;refine zS (T.drawE (l1 := [0, 1, 2, 3, 4, 5, 10]) (l2 := [6, 7, 8, 9, 11, 12]) (by kernel_rfl) (by kernel_rfl) (yR R4 (vW 5 [_,_] R5 R4) (yL R4 (Val.move rfl) (yL R4 (Val.move rfl) ?_))));obtain ⟨a128, hia128, ea128, h⟩ := el_some h;obtain ⟨wa128, ewa128, hra128⟩ := RdA.at hL106 ea128;refine TD1.fact (own_at (en := encAV) (p := 0) rfl (RdA.pos hL106 hia128)) (fun hp=>?_);obtain ⟨ida128, ata128⟩ := hp;refine yL R4 (Val.iaddr_at (en := encAV) ata128 ⟨rfl, rfl⟩ rfl rfl (RdA.pos hL106 hia128)) (yR R4 (Val.load_ownL (en := encAV) (p := 0) (j := 0) rfl ata128 ⟨_, rfl, rfl⟩ rfl ewa128 rfl) (TD1.fact (rdl_cellS hra128 (memc (p := 4) rfl (memc (p := 3) rfl (memc (p := 2) rfl (memc (p := 1) rfl (M6)))))) (fun hoa128=>yL R4 (Val.buildC (cs := [_, _, _]) (vs := [(_, _), (_, _)]) (ws := [(_, [_, _]), (_, [_])]) rfl rfl (CellsL.cons rfl (CellsL.cons hoa128.1 CellsL.nil)) rfl) (TD1.floatN rfl rfl rfl rfl (New.alloc (k := 7) (cells := [_, _, _, _, _, _, _]) rfl rfl rfl rfl) (fun b16=>TD1.over (fun v => sameC_refl v) (all_cons (⟨_, rfl, (Val.load_ownL (en := encAV) (p := 1) (j := 0) rfl ata128 ⟨_, rfl, rfl⟩ rfl ewa128 rfl)⟩) (all_cons (⟨_, rfl, (vW 6 [_,_] R5 R4)⟩) all_nil)) ?_)))));obtain ⟨⟨y131, y131_2, y131_3, y131_4, y131_5, y131_6, y131_7, y131_8, y131_9, y131_10, y131_11, y131_12, y131_13⟩, hr131, h⟩ := andx_some h;dsimp only at h;obtain ⟨g_5, hgg_5, hrg_5⟩ := Rdl.reif (hs := .obj b16 (.row [nilS, nilS, iv (0), nilS, nilS, nilS, iv (0)] 7 0) :: ownL false (.slice v106_2 0 (List.flatMap encAV.f [(GSo true encIt (List.map (fun x => (⟨GSo true encI x⟩ : Item)) y35)).v, w77, w81, w87, w104, (GSo false encIt (List.map (fun x => (⟨GSo true encI x⟩ : Item)) y72)).v]).length true (List.length [(GSo true encIt (List.map (fun x => (⟨GSo true encI x⟩ : Item)) y35)).v, w77, w81, w87, w104, (GSo false encIt (List.map (fun x => (⟨GSo true encI x⟩ : Item)) y72)).v]) (List.length [(GSo true encIt (List.map (fun x => (⟨GSo true encI x⟩ : Item)) y35)).v, w77, w81, w87, w104, (GSo false encIt (List.map (fun x => (⟨GSo true encI x⟩ : Item)) y72)).v])) encAV [(GSo true encIt (List.map (fun x => (⟨GSo true encI x⟩ : Item)) y35)).v, w77, w81, w87, w104, (GSo false encIt (List.map (fun x => (⟨GSo true encI x⟩ : Item)) y72)).v] :: ownL false w104 encIt y104 :: ownL false w87 encIt y87 :: ownL true w81 encIt y81 :: ownL true w77 encIt y77 :: .row b2 2 [iv (b_Signed), v_b_Gatherings] :: C) h_b_Gatherings M7 (ReifL.flat encG_tr);obtain ⟨g_6, hgg_6, hrg_6⟩ := Rdl.reif (hs := .obj b16 (.row [nilS, nilS, iv (0), nilS, nilS, nilS, iv (0)] 7 0) :: ownL false (.slice v106_2 0 (List.flatMap encAV.f [(GSo true encIt (List.map (fun x => (⟨GSo true encI x⟩ : Item)) y35)).v, w77, w81, w87, w104, (GSo false encIt (List.map (fun x => (⟨GSo true encI x⟩ : Item)) y72)).v]).length true (List.length [(GSo true encIt (List.map (fun x => (⟨GSo true encI x⟩ : Item)) y35)).v, w77, w81, w87, w104, (GSo false encIt (List.map (fun x => (⟨GSo true encI x⟩ : Item)) y72)).v]) (List.length [(GSo true encIt (List.map (fun x => (⟨GSo true encI x⟩ : Item)) y35)).v, w77, w81, w87, w104, (GSo false encIt (List.map (fun x => (⟨GSo true encI x⟩ : Item)) y72)).v])) encAV [(GSo true encIt (List.map (fun x => (⟨GSo true encI x⟩ : Item)) y35)).v, w77, w81, w87, w104, (GSo false encIt (List.map (fun x => (⟨GSo true encI x⟩ : Item)) y72)).v] :: ownL false w104 encIt y104 :: ownL false w87 encIt y87 :: ownL true w81 encIt y81 :: ownL true w77 encIt y77 :: .row b2 2 [iv (b_Signed), v_b_Gatherings] :: C) hra128 (memc (p := 5) rfl (memc (p := 4) rfl (memc (p := 3) rfl (memc (p := 2) rfl (M7))))) (ReifL.flat encIt_tr)
       refine TD2.heavy (fun v => sameC_refl v) rfl (by decide) rfl rfl (OpS.call rfl rfl rfl (orcL rfl aD) (.cons (.agg (.cons .lit (.cons (hrg_5 _) (.cons (hrg_6 _) .nil)))) .nil) (sem_of (w_c_Faults b_Signed g_5 g_6 _ (by try rw [hgg_5]; try rw [hgg_6]; exact hr131)))) ?_;rintro _ _ ⟨rfl, rfl⟩;refine ⟨(all_cons (.inl (by kernel_rfl)) (all_cons (.inl (by kernel_rfl)) all_nil)), (all_cons (.inr (by repeat first | exact List.mem_cons_self | apply List.mem_cons_of_mem)) all_nil), ?_⟩;refine yM R4 (Val.move rfl) (yM R4 (Val.extract rfl rfl) (yM R4 (Val.extract rfl rfl) (TD2.less (Less.floatRow (p := 0) rfl) (yG (_::_::_::_::_::_::_::C) rfl (TD2.heavy (fun v => sameC_refl v) rfl (by decide) rfl rfl (OpS.eff (Eff.store_row (p := 0) (cv := [_, _, _, _, _, _, _]) (cells' := [_, _, _, _, _, _, _]) rfl rfl rfl rfl rfl rfl rfl rfl aG (by decide) rfl)) ?_)))));rintro _ _ rfl;refine ⟨(all_cons (.inl (by kernel_rfl)) (all_cons (.inl (by kernel_rfl)) all_nil)), (all_cons (.inl (by kernel_rfl)) all_nil), ?_⟩;refine yG (_::_::_::_::_::_::_::C) rfl (yM R4 (Val.assign rfl) (TD2.nil (zS (T.drawE (l1 := [0, 1, 2, 3, 4, 5, 10]) (l2 := [6, 7, 8, 9, 11, 12]) (by kernel_rfl) (by kernel_rfl) (yR R4 (vW 6 [_,_] R5 R4) (yL R4 (Val.move rfl) (yL R4 (Val.move rfl) ?_)))))));obtain ⟨a138, hia138, ea138, h⟩ := el_some h;obtain ⟨wa138, ewa138, hra138⟩ := RdA.at hL106 ea138;refine TD1.fact (own_at (en := encAV) (p := 1) rfl (RdA.pos hL106 hia138)) (fun hp=>?_);obtain ⟨ida138, ata138⟩ := hp;refine yL R4 (Val.iaddr_at (en := encAV) ata138 ⟨rfl, rfl⟩ rfl rfl (RdA.pos hL106 hia138)) (yR R4 (Val.load_ownL (en := encAV) (p := 1) (j := 0) rfl ata138 ⟨_, rfl, rfl⟩ rfl ewa138 rfl) (TD1.fact (rdl_cellS hra138 (memc (p := 5) rfl (memc (p := 4) rfl (memc (p := 3) rfl (memc (p := 2) rfl (M7)))))) (fun hoa138=>yL R4 (Val.buildC (cs := [_, _, _]) (vs := [(_, _), (_, _)]) (ws := [(_, [_, _]), (_, [_])]) rfl rfl (CellsL.cons rfl (CellsL.cons hoa138.1 CellsL.nil)) rfl) (TD1.floatN rfl rfl rfl rfl (New.alloc (k := 2) (cells := [_, _]) rfl rfl rfl rfl) (fun b18=>TD1.over (fun v => sameC_refl v) (all_cons (⟨_, rfl, (Val.load_ownL (en := encAV) (p := 2) (j := 0) rfl ata138 ⟨_, rfl, rfl⟩ rfl ewa138 rfl)⟩) (all_cons (⟨_, rfl, (vW 7 [_,_] R5 R4)⟩) all_nil)) ?_)))));obtain ⟨⟨y141, y141_2, y141_3⟩, hr141, h⟩ := andx_some h;dsimp only at h;obtain ⟨g_7, hgg_7, hrg_7⟩ := Rdl.reif (hs := .obj b18 (.row [iv (0), iv (0)] 2 0) :: .row b16 7 [(GSo y131_2 encI y131).v, (GSo y131_4 encI y131_3).v, iv (y131_5), (GSo y131_7 encI y131_6).v, (GSo y131_9 encI y131_8).v, (GSo y131_11 encI y131_10).v, iv (y131_12)] :: ownL false (.slice v106_2 0 (List.flatMap encAV.f [(GSo true encIt (List.map (fun x => (⟨GSo true encI x⟩ : Item)) y35)).v, w77, w81, w87, w104, (GSo false encIt (List.map (fun x => (⟨GSo true encI x⟩ : Item)) y72)).v]).length true (List.length [(GSo true encIt (List.map (fun x => (⟨GSo true encI x⟩ : Item)) y35)).v, w77, w81, w87, w104, (GSo false encIt (List.map (fun x => (⟨GSo true encI x⟩ : Item)) y72)).v]) (List.length [(GSo true encIt (List.map (fun x => (⟨GSo true encI x⟩ : Item)) y35)).v, w77, w81, w87, w104, (GSo false encIt (List.map (fun x => (⟨GSo true encI x⟩ : Item)) y72)).v])) encAV [(GSo true encIt (List.map (fun x => (⟨GSo true encI x⟩ : Item)) y35)).v, w77, w81, w87, w104, (GSo false encIt (List.map (fun x => (⟨GSo true encI x⟩ : Item)) y72)).v] :: ownL false w104 encIt y104 :: ownL false w87 encIt y87 :: ownL true w81 encIt y81 :: ownL true w77 encIt y77 :: .row b2 2 [iv (b_Signed), v_b_Gatherings] :: C) h_b_Gatherings M8 (ReifL.flat encG_tr)
       obtain ⟨g_8, hgg_8, hrg_8⟩ := Rdl.reif (hs := .obj b18 (.row [iv (0), iv (0)] 2 0) :: .row b16 7 [(GSo y131_2 encI y131).v, (GSo y131_4 encI y131_3).v, iv (y131_5), (GSo y131_7 encI y131_6).v, (GSo y131_9 encI y131_8).v, (GSo y131_11 encI y131_10).v, iv (y131_12)] :: ownL false (.slice v106_2 0 (List.flatMap encAV.f [(GSo true encIt (List.map (fun x => (⟨GSo true encI x⟩ : Item)) y35)).v, w77, w81, w87, w104, (GSo false encIt (List.map (fun x => (⟨GSo true encI x⟩ : Item)) y72)).v]).length true (List.length [(GSo true encIt (List.map (fun x => (⟨GSo true encI x⟩ : Item)) y35)).v, w77, w81, w87, w104, (GSo false encIt (List.map (fun x => (⟨GSo true encI x⟩ : Item)) y72)).v]) (List.length [(GSo true encIt (List.map (fun x => (⟨GSo true encI x⟩ : Item)) y35)).v, w77, w81, w87, w104, (GSo false encIt (List.map (fun x => (⟨GSo true encI x⟩ : Item)) y72)).v])) encAV [(GSo true encIt (List.map (fun x => (⟨GSo true encI x⟩ : Item)) y35)).v, w77, w81, w87, w104, (GSo false encIt (List.map (fun x => (⟨GSo true encI x⟩ : Item)) y72)).v] :: ownL false w104 encIt y104 :: ownL false w87 encIt y87 :: ownL true w81 encIt y81 :: ownL true w77 encIt y77 :: .row b2 2 [iv (b_Signed), v_b_Gatherings] :: C) hra138 (memc (p := 6) rfl (memc (p := 5) rfl (memc (p := 4) rfl (memc (p := 3) rfl (M8))))) (ReifL.flat encIt_tr);refine TD2.heavy (fun v => sameC_refl v) rfl (by decide) rfl rfl (OpS.call rfl rfl rfl (orcL rfl aD) (.cons (.agg (.cons .lit (.cons (hrg_7 _) (.cons (hrg_8 _) .nil)))) .nil) (sem_of (w_c_Range b_Signed g_7 g_8 _ (by try rw [hgg_7]; try rw [hgg_8]; exact hr141)))) ?_;rintro _ _ ⟨rfl, rfl⟩;refine ⟨(all_cons (.inl (by kernel_rfl)) (all_cons (.inl (by kernel_rfl)) all_nil)), (all_cons (.inr (by repeat first | exact List.mem_cons_self | apply List.mem_cons_of_mem)) all_nil), ?_⟩;refine yM R4 (Val.move rfl) (yM R4 (Val.extract rfl rfl) (yM R4 (Val.extract rfl rfl) (TD2.less (Less.floatRow (p := 0) rfl) (yG (_::_::_::_::_::_::_::_::C) rfl (TD2.heavy (fun v => sameC_refl v) rfl (by decide) rfl rfl (OpS.eff (Eff.store_row (p := 0) (cv := [_, _]) (cells' := [_, _]) rfl rfl rfl rfl rfl rfl rfl rfl aG (by decide) rfl)) ?_)))));rintro _ _ rfl;refine ⟨(all_cons (.inl (by kernel_rfl)) (all_cons (.inl (by kernel_rfl)) all_nil)), (all_cons (.inl (by kernel_rfl)) all_nil), ?_⟩;refine yG (_::_::_::_::_::_::_::_::C) rfl (yM R4 (Val.assign rfl) (TD2.nil ?_))
       show T _ _ _ _ _ _;apply T.joinA (r := j) (W := Unit) (fun j w => ⟨[], [(2, .ptr b2 0 2), (7, (GSo true encIt (List.map (fun x => (⟨GSo true encI x⟩ : Item)) y35)).v), (12, (GSo false encIt (List.map (fun x => (⟨GSo true encI x⟩ : Item)) y72)).v), (13, (.slice v106_2 0 (List.flatMap encAV.f [(GSo true encIt (List.map (fun x => (⟨GSo true encI x⟩ : Item)) y35)).v, w77, w81, w87, w104, (GSo false encIt (List.map (fun x => (⟨GSo true encI x⟩ : Item)) y72)).v]).length true (List.length [(GSo true encIt (List.map (fun x => (⟨GSo true encI x⟩ : Item)) y35)).v, w77, w81, w87, w104, (GSo false encIt (List.map (fun x => (⟨GSo true encI x⟩ : Item)) y72)).v]) (List.length [(GSo true encIt (List.map (fun x => (⟨GSo true encI x⟩ : Item)) y35)).v, w77, w81, w87, w104, (GSo false encIt (List.map (fun x => (⟨GSo true encI x⟩ : Item)) y72)).v]))), (14, iv (i)), (162, bv j)], .row b18 2 [iv (y141), iv (y141_2)] :: .row b16 7 [(GSo y131_2 encI y131).v, (GSo y131_4 encI y131_3).v, iv (y131_5), (GSo y131_7 encI y131_6).v, (GSo y131_9 encI y131_8).v, (GSo y131_11 encI y131_10).v, iv (y131_12)] :: ownL false (.slice v106_2 0 (List.flatMap encAV.f [(GSo true encIt (List.map (fun x => (⟨GSo true encI x⟩ : Item)) y35)).v, w77, w81, w87, w104, (GSo false encIt (List.map (fun x => (⟨GSo true encI x⟩ : Item)) y72)).v]).length true (List.length [(GSo true encIt (List.map (fun x => (⟨GSo true encI x⟩ : Item)) y35)).v, w77, w81, w87, w104, (GSo false encIt (List.map (fun x => (⟨GSo true encI x⟩ : Item)) y72)).v]) (List.length [(GSo true encIt (List.map (fun x => (⟨GSo true encI x⟩ : Item)) y35)).v, w77, w81, w87, w104, (GSo false encIt (List.map (fun x => (⟨GSo true encI x⟩ : Item)) y72)).v])) encAV [(GSo true encIt (List.map (fun x => (⟨GSo true encI x⟩ : Item)) y35)).v, w77, w81, w87, w104, (GSo false encIt (List.map (fun x => (⟨GSo true encI x⟩ : Item)) y72)).v] :: ownL false w104 encIt y104 :: ownL false w87 encIt y87 :: ownL true w81 encIt y81 :: ownL true w77 encIt y77 :: .row b2 2 [iv (b_Signed), v_b_Gatherings] :: C⟩) h
       ·intro j h;refine T.drawE (l1 := [0, 1, 2, 3, 4, 5, 6, 7, 8, 9, 10, 11, 12, 13, 14, 15]) (l2 := [16, 17, 18]) (by kernel_rfl) (by kernel_rfl) (yL R4 (Val.move rfl) ?_);obtain ⟨c145, hc145⟩ := zY (¬ y131_13 = 0);refine yL R4 (Val.neq hc145 rfl rfl) (yL R4 (Val.move rfl) ?_);obtain ⟨rfl, hc145, h⟩ | ⟨rfl, hc145, h⟩ := zI hc145 h
        ·refine TD1.off rfl rfl rfl (TD1.off rfl rfl rfl (yL R4 (Val.pick rfl rfl rfl) (yL R4 (Val.move rfl) (TD1.off rfl rfl rfl (TD1.off rfl rfl rfl (TD1.off rfl rfl rfl (TD1.off rfl rfl rfl (yL R4 (Val.pick rfl rfl rfl) (yL R4 (Val.move rfl) (TD1.off rfl rfl rfl (TD1.off rfl rfl rfl (TD1.off rfl rfl rfl (TD1.over (fun v => sameC_refl v) all_nil (TD2.off rfl rfl rfl (TD2.off rfl rfl rfl (yM R4 (Val.pick rfl rfl rfl) (TD2.nil ?_)))))))))))))))));cases h;exact ⟨rfl, (), (sb .refl)⟩
        refine yL R4 (Val.move rfl) ?_;obtain ⟨c148, hc148⟩ := zY (¬ y141_3 = 0);refine yL R4 (Val.neq hc148 rfl rfl) (yL R4 (Val.pick rfl rfl rfl) (yL R4 (Val.move rfl) ?_));obtain ⟨rfl, hc148, h⟩ | ⟨rfl, hc148, h⟩ := zI hc148 h
        ·refine TD1.off rfl rfl rfl (TD1.off rfl rfl rfl (TD1.off rfl rfl rfl (TD1.off rfl rfl rfl (yL R4 (Val.pick rfl rfl rfl) (yL R4 (Val.move rfl) (TD1.off rfl rfl rfl (TD1.off rfl rfl rfl (TD1.off rfl rfl rfl (TD1.over (fun v => sameC_refl v) all_nil (TD2.off rfl rfl rfl (TD2.off rfl rfl rfl (yM R4 (Val.pick rfl rfl rfl) (TD2.nil ?_)))))))))))));cases h;exact ⟨rfl, (), (sb .refl)⟩
        refine yL R4 (Val.faddr_ptr (fo := 6) rfl rfl rfl) (yR R4 (vR (p := 1) R6) (yL R4 (Val.move rfl) ?_));obtain ⟨c154, hc154⟩ := zY (¬ y131_12 = want);refine yL R4 (Val.neq hc154 rfl rfl) (yL R4 (Val.pick rfl rfl rfl) (yL R4 (Val.move rfl) ?_));obtain ⟨rfl, hc154, h⟩ | ⟨rfl, hc154, h⟩ := zI hc154 h
        ·refine TD1.off rfl rfl rfl (TD1.off rfl rfl rfl (TD1.off rfl rfl rfl (TD1.over (fun v => sameC_refl v) (all_cons (⟨_, rfl, (vR (p := 1) R6)⟩) all_nil) (TD2.off rfl rfl rfl (TD2.off rfl rfl rfl (yM R4 (Val.pick rfl rfl rfl) (TD2.nil ?_)))))));cases h;exact ⟨rfl, (), (sb .refl)⟩
        refine yR R4 (vW 0 [_,_] R5 R4) (yL R4 (Val.move rfl) (yL R4 (Val.move rfl) (TD1.over (fun v => sameC_refl v) (all_cons (⟨_, rfl, (vW 0 [_,_] R5 R4)⟩) (all_cons (⟨_, rfl, (vR (p := 1) R6)⟩) all_nil)) ?_)));obtain ⟨⟨y160, y160_2⟩, hr160, h⟩ := andx_some h;dsimp only at h;refine TD2.heavy (fun v => sameC_refl v) rfl (by decide) rfl rfl (OpS.callV rfl rfl rfl rfl (orcN rfl) (RepF.conv (tf_l_span aD hr160))) ?_;rintro _ _ ⟨_, rfl, rfl⟩;refine ⟨(all_cons (.inr ⟨_, rfl, (vW 0 [_,_] R5 R4)⟩) (all_cons (.inl (by kernel_rfl)) all_nil)), all_nil, ?_⟩;refine yG (_::_::_::_::_::_::_::_::C) rfl ?_;obtain ⟨c161, hc161⟩ := zY (¬ (y141 = y160 ∧ y141_2 = y160_2));refine yM R4 (Val.binD hc161 rfl rfl (neq_ty57 _ _ _ _ _ _)) (yM R4 (Val.pick rfl rfl rfl) (TD2.nil ?_));subst hc161;cases h;exact ⟨rfl, (), (sb .refl)⟩
       ·rintro x162 _ h;obtain ⟨rfl, h⟩ | ⟨rfl, h⟩ := zZ h
        ·refine zC rfl (zU rfl (zA R4 (zN (zR ?_))));cases h;exact ⟨ret_ne, ⟨ret_ne, ⟨ret_ne, ⟨rfl, _, rfl, ⟨(), rfl, (pk [98,98,98,98,98,98,98,98] rfl)⟩⟩⟩⟩⟩
        refine zD rfl (zK ?_);cases h;exact ⟨rfl, (), (sb (pk [2,2,2,2,2,2,98,98] rfl))⟩
     ·rintro _ _ h;refine zT rfl (zM R4 ?_);obtain ⟨hk112, h⟩ := chk_some h;refine zV R3 (Val.add rfl rfl hk112) (zA R4 (zN ?_));cases h;exact ⟨rfl, (), (sb .refl)⟩
    refine zD rfl (zE ?_);cases h;exact ⟨ex_ne, ⟨rfl, (), (sb .refl)⟩⟩
   ·rintro _ _ h;refine zU rfl (TO.call rfl rfl rfl rfl rfl orcA .nil rfl (zA R4 (zN (zR ?_))));cases h;exact ⟨rfl, _, rfl, ⟨(), rfl, (pk [98,98,98,98,98,98] rfl)⟩⟩
 refine zC rfl (zU rfl (zV R3 (vW 1 [_,_] R5 R4) (zV R3 (Val.buildC (cs := [_, _, _]) (vs := [(_, _)]) (ws := [(_, [_, _])]) rfl rfl (CellsL.cons rfl CellsL.nil) rfl) ?_)));obtain ⟨⟨y26, y26_2, y26_3, y26_4, y26_5, y26_6, y26_7, y26_8, y26_9, y26_10, y26_11, y26_12, y26_13⟩, hr26, h⟩ := andx_some h;dsimp only at h;obtain ⟨g_2, hgg_2, hrg_2⟩ := Rdl.reif (hs := .row b3 1 [ivk .u16 ((x_0.toNat : Int)), ivk .u16 ((x_1.toNat : Int)), ivk .u16 ((x_2.toNat : Int)), ivk .u16 ((x_3.toNat : Int))] :: .row b2 2 [iv (b_Signed), v_b_Gatherings] :: C) h_b_Gatherings M2 (ReifL.flat encG_tr);refine TO.call rfl rfl rfl rfl rfl (orcL rfl aD) (.cons (.agg (.cons .lit (.cons (hrg_2 _) (.cons .lit .nil)))) .nil) (sem_of (w_c_Faults b_Signed g_2 (GSo true encIt []) _ (by try rw [hgg_2]; exact hr26))) (zM R4 (zX R5 (zX R5 (zJ 7 [_,_,_,_,_,_,_] R7 (fun b5=>TO.eff0 rfl rfl (Eff.store_row (p := 0) (cv := [_, _, _, _, _, _, _]) (cells' := [_, _, _, _, _, _, _]) rfl rfl rfl rfl rfl rfl rfl rfl aG (by decide) rfl) ?_)))));rintro _ rfl;refine zG (_::_::_::C) rfl (zA R4 (zN ?_))
 show T _ _ _ _ _ _;apply T.joinA (r := r) (W := Unit) (fun j w => ⟨[], [(4, bv j)], .row b5 7 [(GSo y26_2 encI y26).v, (GSo y26_4 encI y26_3).v, iv (y26_5), (GSo y26_7 encI y26_6).v, (GSo y26_9 encI y26_8).v, (GSo y26_11 encI y26_10).v, iv (y26_12)] :: .row b3 1 [ivk .u16 ((x_0.toNat : Int)), ivk .u16 ((x_1.toNat : Int)), ivk .u16 ((x_2.toNat : Int)), ivk .u16 ((x_3.toNat : Int))] :: .row b2 2 [iv (b_Signed), v_b_Gatherings] :: C⟩) h
 ·intro j h;refine zT rfl (zM R4 ?_);obtain ⟨c30, hc30⟩ := zY (¬ y26_13 = 0);refine zV R3 (Val.neq hc30 rfl rfl) (zM R4 ?_);obtain ⟨rfl, hc30, h⟩ | ⟨rfl, hc30, h⟩ := zI hc30 h
  ·refine TO.call rfl rfl rfl rfl rfl orcA .nil rfl (zP R6 (zA R4 (zN ?_)));cases h;exact ⟨rfl, (), (sb .refl)⟩
  refine zO R3 (zP R6 (zA R4 (zN ?_)));cases h;exact ⟨rfl, (), (sb .refl)⟩
 ·rintro x4 _ h;refine zR ?_;cases h;exact ⟨rfl, _, rfl, ⟨(), rfl, (pk [98,98,98] rfl)⟩⟩
theorem w_law_CopyWhole (b_Signed : Int) (b_Gatherings : GS encG) (x_0 : UInt16) (x_1 : UInt16) (x_2 : UInt16) (x_3 : UInt16) (r : Bool) (h : P_law_CopyWhole b_Signed b_Gatherings.l x_0 x_1 x_2 x_3 = some r) : Comes (EL 7) 5 [.agg [iv (b_Signed), b_Gatherings.v], .agg [ivk .u16 ((x_0.toNat : Int)), ivk .u16 ((x_1.toNat : Int)), ivk .u16 ((x_2.toNat : Int)), ivk .u16 ((x_3.toNat : Int))]] (bv r) :=
 TF.run (tf_law_CopyWhole (Nat.le_refl _) (RdT.gs b_Gatherings) h) fun w => .lit
end Go.Am.Ythckcbfijdambaa
end
section
namespace Go.Am
open Go.RowKit
def Lifts (P : Program) (t : TypeId) {α : Type} (e : En α) : Prop :=
 ∀ (H : Type) (enc : TypeId × Value → H) (W : World) (base : Nat) (held : Bool) (fuel : Nat) (cs : List Value) (x : DataW H × List MemPlace),
  DataW.trod enc P W base (fun _ => true) held fuel t cs = some x → ∃ a : α, RelL (snapR W 0) (e.f a) cs
theorem Lifts.int {P : Program} {t : TypeId} (ht : P.underlying t = some (.int .i64)) : Lifts P t encI := by
 intro H enc W base held fuel cs x hx;obtain ⟨n, rfl, _, _⟩ := DataW.trod_int ht hx;exact ⟨n, .cons (.lit _) (.nil _)⟩
theorem snap_cell {W : World} {b off : Nat} {v : Value} (h : W.cell? ⟨b, off, none⟩ = some v) : ∃ c, (snapR W 0).imm b = some c ∧ c[off]? = some v := by
 unfold World.cell? at h;split at h
 ·rename_i c _ _ hb
  simp at h;exact ⟨c, by simp only [snapR, snap, Nat.zero_le, if_true]; simp only [] at hb; rw [hb], h⟩
 ·cases h
theorem list_of {α : Type} {p : Nat → α → Prop} : ∀ n : Nat, (∀ i, i < n → ∃ a, p i a) → ∃ l : List α, l.length = n ∧ ∀ i a, l[i]? = some a → p i a := by
 intro n
 induction n with
 | zero => intro _; exact ⟨[], rfl, fun i a h => by simp at h⟩
 | succ n ih =>
  intro h;obtain ⟨l, h1, h2⟩ := ih fun i hi => h i (by omega)
  obtain ⟨a, ha⟩ := h n (by omega);refine ⟨l ++ [a], by simp [h1], fun i b hb => ?_⟩
  by_cases hi : i < l.length
  ·rw [List.getElem?_append_left hi] at hb; exact h2 i b hb
  ·rw [List.getElem?_append_right (by omega)] at hb
   have : i - l.length = 0 := by
    have := (List.getElem?_eq_some_iff.1 hb).1;simp at this; omega
   rw [this] at hb;simp at hb;subst hb
   have : i = n := by omega
   rw [this]; exact ha
theorem Lifts.slice {P : Program} {t e : TypeId} {α : Type} {en : En α} (ht : P.underlying t = some (.slice e)) (hu : P.cellsOf e = en.u) (h0 : 0 < en.u) (h : Lifts P e en) : Lifts P t (encSl en) := by
 intro H enc W base held fuel cs x hx
 rcases DataW.trod_slice ht hx with ⟨rfl, _⟩ | ⟨a, len, cap, elems, rest, n, _, rfl, _, hb, hl, _, hlen, hel, hsp, _⟩
 ·exact ⟨⟨nilS, [], .inl ⟨rfl, rfl, rfl⟩⟩, .cons (.lit _) (.nil _)⟩
 ·rw [hu] at hel hsp;obtain ⟨hrl, hr⟩ := hsp rfl
  by_cases hc : cap = 0
  ·subst hc
   have : len = 0 := by omega
   subst this;exact ⟨⟨.tree en.u 0 [], [], .inr ⟨rfl, by simp⟩⟩, .cons .tree0 (.nil _)⟩
  ·have hcell : ∀ i, i < len → ∃ (a' : α) (ci : List Value), W.cells? base (a.add (i * en.u)) en.u = some ci ∧ RelL (snapR W 0) (en.f a') ci := by
    intro i hi
    have he := hel i hi;rw [List.getElem?_eq_getElem (by omega)] at he;obtain ⟨ci, h1, h2⟩ := Option.bind_eq_some_iff.1 he;obtain ⟨a', h3⟩ := h _ _ _ _ _ _ _ _ h2;exact ⟨a', ci, h1, h3⟩
   have hspot : a.spot = none := by
    have : ∃ ci, W.cells? base (a.add (0 * en.u)) en.u = some ci := by
     by_cases hl0 : 0 < len
     ·obtain ⟨_, ci, h1, _⟩ := hcell 0 hl0;exact ⟨ci, h1⟩
     ·have hz : len = 0 := by omega
      have he := hr 0 (by omega);rw [List.getElem?_eq_getElem (by omega)] at he;obtain ⟨ci, h1, _⟩ := Option.bind_eq_some_iff.1 he;exact ⟨ci, by simpa [hz] using h1⟩
    obtain ⟨ci, h1⟩ := this;obtain ⟨_, h2, h3⟩ := World.cells?_some h1
    have h4 := h3 0 h0;rw [List.getElem?_eq_getElem (by omega)] at h4
    have := World.cell?_spot h4
    simpa [Addr.add] using this
   obtain ⟨b, off, sp⟩ := a;simp only at hspot;subst hspot;obtain ⟨l, hl1, hl2⟩ := list_of (p := fun i a' => ∃ ci : List Value, W.cells? base ((⟨b, off, none⟩ : Addr).add (i * en.u)) en.u = some ci ∧ RelL (snapR W 0) (en.f a') ci) len hcell
   have hfl : (l.flatMap en.f).length = len * en.u := by rw [flat_len, hl1]
   have each : ∀ j, j < len * en.u → ∃ v y c, (l.flatMap en.f)[j]? = some v ∧ (snapR W 0).imm b = some c ∧ c[off + j]? = some y ∧ RelV (snapR W 0) v y := by
    intro j hj
    have hi : j / en.u < l.length := by rw [hl1]; exact Nat.div_lt_of_lt_mul (by rw [Nat.mul_comm]; exact hj)
    have hk : j % en.u < en.u := Nat.mod_lt _ h0
    have hd : j / en.u * en.u + j % en.u = j := by rw [Nat.mul_comm]; exact Nat.div_add_mod j en.u
    obtain ⟨ci, h1, h2⟩ := hl2 _ _ (List.getElem?_eq_getElem hi);obtain ⟨_, h3, h4⟩ := World.cells?_some h1
    have h5 := h4 _ hk;rw [List.getElem?_eq_getElem (by omega)] at h5
    have h6 : ((⟨b, off, none⟩ : Addr).add (j / en.u * en.u)).add (j % en.u) = ⟨b, off + j, none⟩ := by
     simp only [addr_add]
     congr 1
     omega
    rw [h6] at h5;obtain ⟨c, h7, h8⟩ := snap_cell h5
    have hlen' := en.len l[j / en.u]
    have hv := List.getElem?_eq_getElem (l := en.f l[j / en.u]) (i := j % en.u) (by omega);refine ⟨_, _, c, ?_, h7, h8, h2.2 _ _ _ hv (List.getElem?_eq_getElem _)⟩
    have := flat_get (en := en) (List.getElem?_eq_getElem hi) hk;rw [hd] at this;rw [this, hv]
   refine ⟨⟨.tree en.u l.length (l.flatMap en.f), l, .inr ⟨rfl, by rw [hfl, hl1]⟩⟩, .cons ?_ (.nil _)⟩
   show RelV _ (.tree en.u l.length (l.flatMap en.f)) _;rw [hl1]
   by_cases hz : len * en.u = 0
   ·refine .tree (c := #[]) hfl hl (.inl (List.eq_nil_of_length_eq_zero (by omega))) fun i v x hv hx => by simp at hx
   ·obtain ⟨_, _, c, _, hc1, _, _⟩ := each (len * en.u - 1) (by omega);refine .tree (c := c) hfl hl (.inr ⟨hc1, ?_⟩) fun j v y hv hy => ?_
    ·obtain ⟨_, _, c', _, hc2, hc3, _⟩ := each (len * en.u - 1) (by omega);rw [hc1] at hc2;cases hc2
     have := (Array.getElem?_eq_some_iff.1 hc3).1;omega
    ·have hj := (List.getElem?_eq_some_iff.1 hv).1;obtain ⟨v', y', c', e1, e2, e3, e4⟩ := each j (by omega);rw [hc1] at e2;cases e2;rw [hv] at e1;rw [hy] at e3;cases e1;cases e3;exact e4
theorem RelL.glue {r : Ren} {a b : List AV} {cs : List Value} {n : Nat} (h1 : RelL r a (cs.take n)) (h2 : RelL r b (cs.drop n)) : RelL r (a ++ b) cs := by
 have := h1.append h2
 rwa [List.take_append_drop] at this
end Go.Am
end
section
namespace Go.Am
open Go.RowKit
def enPair {α β : Type} (a : En α) (b : En β) : En (α × β) := ⟨a.u + b.u, fun p => a.f p.1 ++ b.f p.2, fun p => by simp [a.len, b.len]⟩
theorem Lifts.map {P : Program} {t : TypeId} {α β : Type} {a : En α} {b : En β} (h : Lifts P t a) (hf : ∀ x, ∃ y, b.f y = a.f x) : Lifts P t b := by
 intro H enc W base held fuel cs x hx;obtain ⟨v, hv⟩ := h _ _ _ _ _ _ _ _ hx;obtain ⟨y, hy⟩ := hf v;exact ⟨y, by rw [hy]; exact hv⟩
theorem Lifts.struct1 {P : Program} {t : TypeId} {f0 : Field} {α : Type} {a : En α} (ht : P.underlying t = some (.struct #[f0])) (o0 : f0.offset = 0) (c0 : P.cellsOf f0.type = a.u) (ct : P.cellsOf t = a.u)
  (l0 : Lifts P f0.type a) : Lifts P t a := by
 intro H enc W base held fuel cs x hx;obtain ⟨xs, n, _, _, hl, hn, h⟩ := DataW.trod_struct ht hx
 have hn1 : xs.length = 1 := hn
 have h0 := h 0 f0 rfl;rw [List.getElem?_eq_getElem (by omega), o0, c0, List.drop_zero, List.take_of_length_le (by omega)] at h0;exact l0 _ _ _ _ _ _ _ _ h0
theorem Lifts.struct2 {P : Program} {t : TypeId} {f0 f1 : Field} {α β : Type} {a : En α} {b : En β} (ht : P.underlying t = some (.struct #[f0, f1])) (o0 : f0.offset = 0) (o1 : f1.offset = a.u)
  (c0 : P.cellsOf f0.type = a.u) (c1 : P.cellsOf f1.type = b.u) (ct : P.cellsOf t = a.u + b.u) (l0 : Lifts P f0.type a) (l1 : Lifts P f1.type b) : Lifts P t (enPair a b) := by
 intro H enc W base held fuel cs x hx;obtain ⟨xs, n, _, _, hl, hn, h⟩ := DataW.trod_struct ht hx
 have hn1 : xs.length = 2 := hn
 have h0 := h 0 f0 rfl
 have h1 := h 1 f1 rfl;rw [List.getElem?_eq_getElem (by omega), o0, c0, List.drop_zero] at h0;rw [List.getElem?_eq_getElem (by omega), o1, c1, List.take_of_length_le (by simp; omega)] at h1;obtain ⟨x0, r0⟩ := l0 _ _ _ _ _ _ _ _ h0;obtain ⟨x1, r1⟩ := l1 _ _ _ _ _ _ _ _ h1;exact ⟨(x0, x1), .glue r0 r1⟩
theorem Lifts.struct3 {P : Program} {t : TypeId} {f0 f1 f2 : Field} {α β γ : Type} {a : En α} {b : En β} {c : En γ} (ht : P.underlying t = some (.struct #[f0, f1, f2])) (o0 : f0.offset = 0) (o1 : f1.offset = a.u) (o2 : f2.offset = a.u + b.u)
  (c0 : P.cellsOf f0.type = a.u) (c1 : P.cellsOf f1.type = b.u) (c2 : P.cellsOf f2.type = c.u) (ct : P.cellsOf t = a.u + (b.u + c.u)) (l0 : Lifts P f0.type a) (l1 : Lifts P f1.type b) (l2 : Lifts P f2.type c) :
  Lifts P t (enPair a (enPair b c)) := by
 intro H enc W base held fuel cs x hx;obtain ⟨xs, n, _, _, hl, hn, h⟩ := DataW.trod_struct ht hx
 have hn1 : xs.length = 3 := hn
 have h0 := h 0 f0 rfl
 have h1 := h 1 f1 rfl
 have h2 := h 2 f2 rfl;rw [List.getElem?_eq_getElem (by omega), o0, c0, List.drop_zero] at h0;rw [List.getElem?_eq_getElem (by omega), o1, c1] at h1;rw [List.getElem?_eq_getElem (by omega), o2, c2, ← List.drop_drop, List.take_of_length_le (by simp; omega)] at h2;obtain ⟨x0, r0⟩ := l0 _ _ _ _ _ _ _ _ h0;obtain ⟨x1, r1⟩ := l1 _ _ _ _ _ _ _ _ h1;obtain ⟨x2, r2⟩ := l2 _ _ _ _ _ _ _ _ h2;exact ⟨(x0, x1, x2), .glue r0 (.glue r1 r2)⟩
theorem Lifts.arg {P : Program} {t : TypeId} {fs : Array Field} {α : Type} {en : En α} (hl : Lifts P t en) (ht : P.underlying t = some (.struct fs)) {W : World} {r : Reach} {b0 : Nat} {v : Value} (hval : Value.okWide P W r b0 t v)
  {H : Type} {enc : TypeId × Value → H} {base : Nat} {held : Bool} {d : DataW H} {ps : List MemPlace} (h : DataW.Trod enc P W base (fun _ => true) held t v d ps) : ∃ a, RelV (snapR W 0) (.agg (en.f a)) v := by
 simp only [Value.okWide, ht] at hval;obtain ⟨cs, rfl, _, _⟩ := hval;obtain ⟨fuel, hf⟩ := h;obtain ⟨a, ha⟩ := hl _ _ _ _ _ _ _ _ hf;exact ⟨a, by simpa [Value.cells] using RelV.agg ha.1 ha.2⟩
end Go.Am
end
section
namespace Go.Am
open Go.RowKit
set_option linter.unusedVariables false
def encU16 : En UInt16 := ⟨1, fun b => [ivk .u16 (b.toNat : Int)], fun _ => rfl⟩
theorem Lifts.u8 {P : Program} {t : TypeId} (ht : P.underlying t = some (.int .u8)) : Lifts P t encU8 := by
 intro H enc W base held fuel cs x hx;obtain ⟨n, rfl, _, hw⟩ := DataW.trod_int ht hx
 have hw : 0 ≤ n ∧ n ≤ 255 := by
  have := Bool.and_eq_true_iff.1 hw;exact ⟨of_decide_eq_true this.1, of_decide_eq_true this.2⟩
 have e : ((UInt8.ofNat n.toNat).toNat : Int) = n := by rw [UInt8.toNat_ofNat']; omega
 refine ⟨UInt8.ofNat n.toNat, .cons ?_ (.nil _)⟩;rw [e];exact .lit _
theorem Lifts.u16 {P : Program} {t : TypeId} (ht : P.underlying t = some (.int .u16)) : Lifts P t encU16 := by
 intro H enc W base held fuel cs x hx;obtain ⟨n, rfl, _, hw⟩ := DataW.trod_int ht hx
 have hw : 0 ≤ n ∧ n ≤ 65535 := by
  have := Bool.and_eq_true_iff.1 hw;exact ⟨of_decide_eq_true this.1, of_decide_eq_true this.2⟩
 have e : ((UInt16.ofNat n.toNat).toNat : Int) = n := by rw [UInt16.toNat_ofNat']; omega
 refine ⟨UInt16.ofNat n.toNat, .cons ?_ (.nil _)⟩;rw [e];exact .lit _
theorem Lifts.arr2 {P : Program} {t e : TypeId} {α : Type} {a : En α} (ht : P.underlying t = some (.array 2 e)) (ce : P.cellsOf e = a.u) (ct : P.cellsOf t = a.u + a.u) (hu : a.u = 1) (l : Lifts P e a) : Lifts P t (enPair a a) := by
 intro H enc W base held fuel cs x hx;obtain ⟨xs, n, _, _, hl, hn, h⟩ := DataW.trod_array ht hx
 have h0 := h 0 (by omega)
 have h1 := h 1 (by omega);rw [List.getElem?_eq_getElem (by omega), ce, Nat.zero_mul, List.drop_zero] at h0;rw [List.getElem?_eq_getElem (by omega), ce, Nat.one_mul, List.take_of_length_le (by simp; omega)] at h1;obtain ⟨x0, r0⟩ := l _ _ _ _ _ _ _ _ h0;obtain ⟨x1, r1⟩ := l _ _ _ _ _ _ _ _ h1;exact ⟨(x0, x1), .glue r0 r1⟩
theorem Lifts.arr4 {P : Program} {t e : TypeId} {α : Type} {a : En α} (ht : P.underlying t = some (.array 4 e)) (ce : P.cellsOf e = a.u) (ct : P.cellsOf t = a.u + (a.u + (a.u + a.u))) (hu : a.u = 1) (l : Lifts P e a) : Lifts P t (enPair a (enPair a (enPair a a))) := by
 intro H enc W base held fuel cs x hx;obtain ⟨xs, n, _, _, hl, hn, h⟩ := DataW.trod_array ht hx
 have h0 := h 0 (by omega)
 have h1 := h 1 (by omega)
 have h2 := h 2 (by omega)
 have h3 := h 3 (by omega);rw [List.getElem?_eq_getElem (by omega), ce, Nat.zero_mul, List.drop_zero] at h0;rw [List.getElem?_eq_getElem (by omega), ce, Nat.one_mul] at h1;rw [List.getElem?_eq_getElem (by omega), ce, show 2 * a.u = a.u + a.u by omega, ← List.drop_drop] at h2;rw [List.getElem?_eq_getElem (by omega), ce, show 3 * a.u = a.u + a.u + a.u by omega, ← List.drop_drop, ← List.drop_drop, List.take_of_length_le (by simp; omega)] at h3;obtain ⟨x0, r0⟩ := l _ _ _ _ _ _ _ _ h0;obtain ⟨x1, r1⟩ := l _ _ _ _ _ _ _ _ h1;obtain ⟨x2, r2⟩ := l _ _ _ _ _ _ _ _ h2;obtain ⟨x3, r3⟩ := l _ _ _ _ _ _ _ _ h3;exact ⟨(x0, x1, x2, x3), .glue r0 (.glue r1 (.glue r2 r3))⟩
theorem Lifts.argA {P : Program} {t e : TypeId} {n : Nat} {α : Type} {en : En α} (hl : Lifts P t en) (ht : P.underlying t = some (.array n e)) {W : World} {r : Reach} {b0 : Nat} {v : Value} (hval : Value.okWide P W r b0 t v)
  {H : Type} {enc : TypeId × Value → H} {base : Nat} {held : Bool} {d : DataW H} {ps : List MemPlace} (h : DataW.Trod enc P W base (fun _ => true) held t v d ps) : ∃ a, RelV (snapR W 0) (.agg (en.f a)) v := by
 simp only [Value.okWide, ht] at hval;obtain ⟨cs, rfl, _, _⟩ := hval;obtain ⟨fuel, hf⟩ := h;obtain ⟨a, ha⟩ := hl _ _ _ _ _ _ _ _ hf;exact ⟨a, by simpa [Value.cells] using RelV.agg ha.1 ha.2⟩
end Go.Am
end
section
namespace Go.Am.Ythckcbfijdambaa
open Go.Am Go.RowKit Go.Proofs
theorem li_3 : Lifts Try.prog 3 encI := .int Try.underlying3
theorem li_96 : Lifts Try.prog 96 (enPair encI encI) := Lifts.struct2 Try.underlying96 rfl rfl (by kernel_rfl) (by kernel_rfl) (by kernel_rfl) li_3 li_3
theorem li_131 : Lifts Try.prog 131 encC := (Lifts.struct3 Try.underlying131 rfl rfl rfl (by kernel_rfl) (by kernel_rfl) (by kernel_rfl) (by kernel_rfl) li_3 li_3 li_3).map fun x => ⟨⟨x.1, x.2.1, x.2.2⟩, rfl⟩
theorem li_97 : Lifts Try.prog 97 (encSl encC) := .slice Try.underlying97 (by kernel_rfl) (by decide) li_131
theorem li_99 : Lifts Try.prog 99 encG := (Lifts.struct3 Try.underlying99 rfl rfl rfl (by kernel_rfl) (by kernel_rfl) (by kernel_rfl) (by kernel_rfl) li_96 li_3 li_97).map fun x => ⟨⟨x.1.1, x.1.2, x.2.1, x.2.2⟩, rfl⟩
theorem li_22 : Lifts Try.prog 22 (encSl encG) := .slice Try.underlying22 (by kernel_rfl) (by decide) li_99
theorem li_24 : Lifts Try.prog 24 encB := (Lifts.struct2 Try.underlying24 rfl rfl (by kernel_rfl) (by kernel_rfl) (by kernel_rfl) li_3 li_22).map fun x => ⟨⟨x.1, x.2⟩, rfl⟩
theorem li_26 : Lifts Try.prog 26 (encSl encI) := .slice Try.underlying26 (by kernel_rfl) (by decide) li_3
theorem li_53 : Lifts Try.prog 53 encIt := (Lifts.struct1 Try.underlying53 rfl (by kernel_rfl) (by kernel_rfl) li_26).map fun x => ⟨⟨x⟩, rfl⟩
theorem li_25 : Lifts Try.prog 25 (encSl encIt) := .slice Try.underlying25 (by kernel_rfl) (by decide) li_53
theorem li_36 : Lifts Try.prog 36 encCa := (Lifts.struct2 Try.underlying36 rfl rfl (by kernel_rfl) (by kernel_rfl) (by kernel_rfl) li_24 li_25).map fun x => ⟨⟨x.1, x.2⟩, rfl⟩
theorem li_44 : Lifts Try.prog 44 encU16 := .u16 Try.underlying44
theorem li_62 : Lifts Try.prog 62 (enPair encU16 encU16) := .arr2 Try.underlying62 (by kernel_rfl) (by kernel_rfl) rfl li_44
theorem li_74 : Lifts Try.prog 74 (enPair (encSl encIt) (encSl encIt)) := Lifts.struct2 Try.underlying74 rfl rfl (by kernel_rfl) (by kernel_rfl) (by kernel_rfl) li_25 li_25
theorem li_5 : Lifts Try.prog 5 encU8 := .u8 Try.underlying5
theorem li_75 : Lifts Try.prog 75 (encSl encU8) := .slice Try.underlying75 (by kernel_rfl) (by decide) li_5
theorem li_45 : Lifts Try.prog 45 (enPair encU16 (enPair encU16 (enPair encU16 encU16))) := .arr4 Try.underlying45 (by kernel_rfl) (by kernel_rfl) rfl li_44
end Go.Am.Ythckcbfijdambaa
end
section
namespace Go.Am
set_option linter.unusedVariables false
theorem i64_small {x : Int} (h : -4000000000000000000 ≤ x ∧ x ≤ 4000000000000000000) : I64 x := by unfold I64; omega
section
variable {σ ε J A β : Type}
theorem Ok.ifp {p : Prop} [Decidable p] {x y : Option β} {Q : β → Prop} (h : p) (hx : Ok x Q) : Ok (if p then x else y) Q := by rw [if_pos h]; exact hx
theorem Ok.ifn {p : Prop} [Decidable p] {x y : Option β} {Q : β → Prop} (h : ¬ p) (hy : Ok y Q) : Ok (if p then x else y) Q := by rw [if_neg h]; exact hy
theorem Ok.andx' {x : Option J} {k : J → Option β} {a : J} {Q : β → Prop} (h : x = Option.some a) (hk : Ok (k a) Q) : Ok (Am.andx x k) Q := by subst h; exact hk
def CountQ (idx : σ → Int) (I : Nat → σ → Prop) (k : Nat) (Q : ε → Prop) : Stp σ ε → Prop
 | .ag s => idx s = k + 1 ∧ I (k + 1) s
 | .dn e => Q e
def FinQ (Q : ε → Prop) : Stp σ ε → Prop
 | .ag _ => False
 | .dn e => Q e
theorem Ok.count (idx : σ → Int) (n : Nat) (I : Nat → σ → Prop) {body : σ → Option (Stp σ ε)} {s0 : σ} {Q : ε → Prop} (h0 : idx s0 = 0) (hI : I 0 s0)
  (step : ∀ k s, k < n → idx s = k → I k s → Ok (body s) (CountQ idx I k Q)) (fin : ∀ s, idx s = n → I n s → Ok (body s) (FinQ Q)) : Ok (Am.iter body s0) Q := by
 refine Ok.iter (fun s => ∃ k : Nat, k ≤ n ∧ idx s = k ∧ I k s) (fun s => n - (idx s).toNat) ⟨0, Nat.zero_le _, h0, hI⟩ ?_;rintro s ⟨k, hk, hx, hi⟩
 by_cases hlt : k < n
 ·refine (step k s hlt hx hi).mono fun x hq => ?_
  cases x with
  | ag s' =>
   have h1 : idx s' = k + 1 := hq.1;exact ⟨⟨k + 1, by omega, by rw [h1]; rfl, hq.2⟩, by show n - (idx s').toNat < n - (idx s).toNat; rw [h1, hx]; omega⟩
  | dn e => exact hq
 ·have : k = n := by omega
  subst this;refine (fin s hx hi).mono fun x hq => ?_
  cases x with
  | ag s' => exact hq.elim
  | dn e => exact hq
end
theorem get_of {α : Type} {l : List α} {k : Nat} {i : Int} {a : α} (h : l[i.toNat]? = some a) (hi : i = k) : l[k]? = some a := by rw [hi] at h; simpa using h
end Go.Am
end
section
namespace Go.Am
def cntOf (t : List Int) : Int → Int := fun x => ((t.countP fun y => decide (y = x) : Nat) : Int)
theorem cntOf_snoc (t : List Int) (n : Int) : cntOf (t ++ [n]) = putI (cntOf t) n (cntOf t n + 1) := by
 funext x
 unfold cntOf putI;rw [List.countP_append]
 by_cases h : x = n
 ·subst h; simp
 ·have : ¬ n = x := fun e => h e.symm
  simp [h, this]
theorem cntOf_le (t : List Int) (x : Int) : 0 ≤ cntOf t x ∧ cntOf t x ≤ t.length := by
 unfold cntOf
 have := List.countP_le_length (p := fun y => decide (y = x)) (l := t);omega
theorem cntOf_pos (t : List Int) (x : Int) : 0 < cntOf t x ↔ x ∈ t := by
 unfold cntOf;rw [show (0 < ((t.countP fun y => decide (y = x) : Nat) : Int)) ↔ 0 < t.countP fun y => decide (y = x) by omega, List.countP_pos_iff];simp
theorem cntOf_zero (t : List Int) (x : Int) : cntOf t x = 0 ↔ x ∉ t := by
 have := cntOf_pos t x
 have := (cntOf_le t x).1
 constructor
 ·intro h hx; have := (cntOf_pos t x).2 hx; omega
 ·intro h; have : ¬ 0 < cntOf t x := fun k => h ((cntOf_pos t x).1 k); omega
theorem there_ok {s : Int} {g : List Gat} {its : List Item} {lv : List Leaf} {mt t : List Int} (ht : t.length ≤ 1000000) : P_c_there s g its lv mt t = some (cntOf t) := by
 refine Ok.get ?_;unfold P_c_there;refine Ok.andx (P := fun f => f = cntOf t) (Ok.count Prod.fst t.length (fun k s => s.2 = cntOf (t.take k)) rfl rfl ?_ ?_) fun _ h => .some h
 ·rintro k ⟨x, f⟩ hk hx hf;simp only at hx hf;subst hf;unfold P_c_there_L1;refine .ifp (by omega) (.el (by omega) fun a ha => ?_)
  have ha := get_of ha hx
  have := cntOf_le (t.take k) a
  have : (t.take k).length ≤ t.length := by rw [List.length_take]; omega
  refine .chk (i64_small (by omega)) (.chk (i64_small (by omega)) (.some ⟨by simp only; omega, ?_⟩))
  show _ = cntOf (t.take (k + 1));rw [take_snoc ha, cntOf_snoc]
 ·rintro ⟨x, f⟩ hx hf;simp only at hx hf;unfold P_c_there_L1;refine .ifn (by omega) (.some ?_)
  show _ = _;rw [hf, List.take_length]
def lostOf (n : Nat) (t : List Int) : List Int := ((List.range n).map fun i : Nat => (i : Int)).filter fun x => decide (x ∉ t)
theorem lostOf_succ (n : Nat) (t : List Int) : lostOf (n + 1) t = if (n : Int) ∉ t then lostOf n t ++ [(n : Int)] else lostOf n t := by
 unfold lostOf;rw [List.range_succ, List.map_append, List.filter_append]
 by_cases h : (n : Int) ∈ t <;> simp [h]
theorem lostOf_len (n : Nat) (t : List Int) : (lostOf n t).length ≤ n := by
 unfold lostOf;exact Nat.le_trans (List.length_filter_le _ _) (by simp)
theorem lost_ok {s : Int} {g : List Gat} {its : List Item} {lv : List Leaf} {mt t : List Int} (ht : t.length ≤ 1000000) (hl : lv.length ≤ 1000000) : P_c_lost s g its lv mt t = some (lostOf lv.length t) := by
 refine Ok.get ?_;unfold P_c_lost;refine .andx' (there_ok ht) ?_;refine Ok.andx (P := fun l => l = lostOf lv.length t) (Ok.count Prod.fst lv.length (fun k s => s.2 = lostOf k t) rfl rfl ?_ ?_) fun _ h => .some h
 ·rintro k ⟨x, l⟩ hk hx hl';simp only at hx hl';subst hl'
  have hlen := lostOf_len k t;unfold P_c_lost_L1;refine .ifp (by omega) (Ok.andx (P := fun l => l = lostOf (k + 1) t) ?_ ?_)
  ·refine .ite (fun hc => ?_) (fun hc => ?_)
   ·refine .chk (by simp; omega) (.some ?_)
    show _ = _;rw [lostOf_succ, if_pos (by rw [← hx]; exact (cntOf_zero t x).1 hc), hx]
   ·refine .some ?_
    show _ = _;rw [lostOf_succ, if_neg (by rw [← hx]; exact fun h => hc ((cntOf_zero t x).2 h))]
  ·rintro l' rfl;exact .chk (i64_small (by omega)) (.some ⟨by simp only; omega, rfl⟩)
 ·rintro ⟨x, l⟩ hx hl';simp only at hx hl';unfold P_c_lost_L1;exact .ifn (by omega) (.some hl')
end Go.Am
end
section
namespace Go.Am
set_option linter.unusedVariables false
def idxTo (p : Nat → Int → Bool) (t : List Int) : Nat → List Int
 | 0 => []
 | k + 1 => idxTo p t k ++ (match t[k]? with | some n => if p k n = true then [(k : Int)] else [] | none => [])
theorem idxTo_succ {p : Nat → Int → Bool} {t : List Int} {k : Nat} {n : Int} (h : t[k]? = some n) : idxTo p t (k + 1) = if p k n = true then idxTo p t k ++ [(k : Int)] else idxTo p t k := by
 rw [idxTo, h];simp only;split <;> simp
theorem idxTo_len (p : Nat → Int → Bool) (t : List Int) : ∀ k, (idxTo p t k).length ≤ k := by
 intro k
 induction k with
 | zero => simp [idxTo]
 | succ k ih =>
  rw [idxTo, List.length_append];split
  ·split <;> simp <;> omega
  ·simp; omega
def isPlain (t : List Int) (k : Nat) (n : Int) : Bool := decide (0 ≤ n ∧ n ∉ t.take k)
def isStrange (k : Nat) (n : Int) : Bool := decide (n < 0)
def isTwice (t : List Int) (k : Nat) (n : Int) : Bool := decide (0 ≤ n ∧ n ∈ t.take k)
def strangeOf (t : List Int) : List Int := idxTo isStrange t t.length
def twiceOf (t : List Int) : List Int := idxTo (isTwice t) t t.length
def gathOf (lv : List Leaf) (x : Int) : Int := match lv[x.toNat]? with | some a => a.g | none => 0
def rnStep (g : Int → Int) (l : List S_copy_run) (i n : Int) : List S_copy_run :=
 match l[l.length - 1]? with
 | some r => if r.last < n ∧ g r.last = g n then l.set (l.length - 1) ⟨r.item, r.first, n⟩ else l ++ [⟨i, n, n⟩]
 | none => l ++ [⟨i, n, n⟩]
def runsTo (g : Int → Int) (t : List Int) : Nat → List S_copy_run
 | 0 => []
 | k + 1 => match t[k]? with | some n => if isPlain t k n = true then rnStep g (runsTo g t k) k n else runsTo g t k | none => runsTo g t k
def runsOf (g : Int → Int) (t : List Int) : List S_copy_run := runsTo g t t.length
def RunOk (n : Nat) (r : S_copy_run) : Prop := 0 ≤ r.first ∧ r.first < n ∧ 0 ≤ r.last ∧ r.last < n
theorem rnStep_ok {g : Int → Int} {l : List S_copy_run} {i n : Int} {N : Nat} (h : ∀ r ∈ l, RunOk N r) (hn : 0 ≤ n ∧ n < N) : ∀ r ∈ rnStep g l i n, RunOk N r := by
 unfold rnStep
 have happ : ∀ r ∈ l ++ [(⟨i, n, n⟩ : S_copy_run)], RunOk N r := fun r hr => by
  rcases List.mem_append.1 hr with hr | hr
  ·exact h r hr
  ·rw [List.mem_singleton] at hr;subst hr;exact ⟨hn.1, hn.2, hn.1, hn.2⟩
 split
 ·rename_i r hr
  split
  ·intro x hx
   rcases List.mem_or_eq_of_mem_set hx with hx | rfl
   ·exact h x hx
   ·have := h r (List.mem_of_getElem? hr);exact ⟨this.1, this.2.1, hn.1, hn.2⟩
  ·exact happ
 ·exact happ
theorem rnStep_len {g : Int → Int} {l : List S_copy_run} {i n : Int} : (rnStep g l i n).length ≤ l.length + 1 := by
 unfold rnStep;split
 ·split <;> simp
 ·simp
theorem runsTo_ok {g : Int → Int} {t : List Int} {N : Nat} (ht : ∀ x ∈ t, x < N) : ∀ k, (∀ r ∈ runsTo g t k, RunOk N r) ∧ (runsTo g t k).length ≤ k := by
 intro k
 induction k with
 | zero => simp [runsTo]
 | succ k ih =>
  rw [runsTo];split
  ·rename_i n hn
   split
   ·rename_i hp
    have h0 : 0 ≤ n := (of_decide_eq_true hp).1;refine ⟨rnStep_ok ih.1 ⟨h0, ht _ (List.mem_of_getElem? hn)⟩, ?_⟩
    have := rnStep_len (g := g) (l := runsTo g t k) (i := k) (n := n);omega
   ·exact ⟨ih.1, by omega⟩
  ·exact ⟨ih.1, by omega⟩
theorem runsTo_succ {g : Int → Int} {t : List Int} {k : Nat} {n : Int} (h : t[k]? = some n) : runsTo g t (k + 1) = if isPlain t k n = true then rnStep g (runsTo g t k) k n else runsTo g t k := by rw [runsTo, h]
def follow (last : Int) (ps : List (S_copy_run × Int)) (a : Int) : Int := ps.foldl (fun a p => if p.1.first > last then max a p.2 else a) a
def chains : List S_copy_run → List Int
 | [] => []
 | r :: l => (follow r.last (l.zip (chains l)) 0 + 1) :: chains l
theorem chains_len : ∀ l, (chains l).length = l.length := by
 intro l
 induction l with
 | nil => rfl
 | cons r l ih => simp [chains, ih]
theorem follow_bounds {last : Int} {M : Int} : ∀ (ps : List (S_copy_run × Int)) (a : Int), (∀ p ∈ ps, p.2 ≤ M) → a ≤ M → a ≤ follow last ps a ∧ follow last ps a ≤ M := by
 intro ps
 induction ps with
 | nil => intro a _ h; exact ⟨Int.le_refl _, h⟩
 | cons p ps ih =>
  intro a h ha
  have hp := h p List.mem_cons_self
  have ht : ∀ p ∈ ps, p.2 ≤ M := fun q hq => h q (List.mem_cons_of_mem _ hq)
  show a ≤ follow last ps (if p.1.first > last then max a p.2 else a) ∧ _;split
  ·have := ih (max a p.2) ht (by omega);exact ⟨by omega, by rw [follow, List.foldl_cons]; rename_i hc; rw [if_pos hc]; exact this.2⟩
  ·have := ih a ht ha;exact ⟨this.1, by rw [follow, List.foldl_cons]; rename_i hc; rw [if_neg hc]; exact this.2⟩
theorem chains_bounds : ∀ (l : List S_copy_run), ∀ m ∈ chains l, 1 ≤ m ∧ m ≤ l.length := by
 intro l
 induction l with
 | nil => intro m h; cases h
 | cons r l ih =>
  intro m h;rw [chains] at h
  rcases List.mem_cons.1 h with rfl | h
  ·have := follow_bounds (last := r.last) (M := l.length) (l.zip (chains l)) 0 (fun p hp => (ih p.2 (List.of_mem_zip hp).2).2) (by omega);rw [List.length_cons];omega
  ·have := ih m h;rw [List.length_cons];omega
def top : List Int → Int
 | [] => 0
 | m :: ms => max (top ms) m
theorem top_bounds {M : Int} (hM : 0 ≤ M) : ∀ l : List Int, (∀ m ∈ l, m ≤ M) → 0 ≤ top l ∧ top l ≤ M := by
 intro l
 induction l with
 | nil => intro _; exact ⟨Int.le_refl _, hM⟩
 | cons a l ih =>
  intro h
  have := ih fun m hm => h m (List.mem_cons_of_mem _ hm)
  have := h a List.mem_cons_self;rw [top];omega
def movedFrom : List (S_copy_run × Int) → Int → Int → List Int
 | [], _, _ => []
 | p :: ps, b, last => if p.2 = b ∧ p.1.first > last then movedFrom ps (b - 1) p.1.last else p.1.item :: movedFrom ps b last
def movedOf (l : List S_copy_run) : List Int := movedFrom (l.zip (chains l)) (top (chains l)) (-1)
theorem movedFrom_len : ∀ (ps : List (S_copy_run × Int)) (b last : Int), (movedFrom ps b last).length ≤ ps.length := by
 intro ps
 induction ps with
 | nil => intro b last; exact Nat.le_refl _
 | cons p ps ih =>
  intro b last;rw [movedFrom];split
  ·have := ih (b - 1) p.1.last;rw [List.length_cons]; omega
  ·have := ih b last;rw [List.length_cons, List.length_cons]; omega
theorem movedOf_len (l : List S_copy_run) : (movedOf l).length ≤ l.length := by
 have := movedFrom_len (l.zip (chains l)) (top (chains l)) (-1);unfold movedOf;rw [List.length_zip, chains_len] at this;omega
def row (l : List S_copy_run) (i : Nat) : List Int := List.replicate i 0 ++ (chains (l.drop i) ++ List.replicate (120 - l.length) 0)
theorem row_len {l : List S_copy_run} {i : Nat} (h : l.length ≤ 120) (hi : i ≤ l.length) : (row l i).length = 120 := by
 unfold row;rw [List.length_append, List.length_append, List.length_replicate, List.length_replicate, chains_len, List.length_drop];omega
theorem row_get {l : List S_copy_run} {i k : Nat} (hk : i ≤ k) (hl : k < l.length) : (row l i)[k]? = (chains (l.drop i))[k - i]? := by
 unfold row;rw [List.getElem?_append_right (by rw [List.length_replicate]; exact hk), List.length_replicate, List.getElem?_append_left (by rw [chains_len, List.length_drop]; omega)]
theorem inner_ok {l : List S_copy_run} {i : Nat} {r : S_copy_run} (hl : l.length ≤ 120) (hr : l[i]? = some r) :
  iter (P_c_moved_L2 l i) (((i : Int) + 1), row l (i + 1)) = some ((row l (i + 1)).set i (follow r.last ((l.drop (i + 1)).zip (chains (l.drop (i + 1)))) 0)) := by
 have hi : i < l.length := (List.getElem?_eq_some_iff.1 hr).1;refine Ok.get ?_
 have hz : (row l (i + 1))[i]? = some 0 := by
  unfold row;rw [List.getElem?_append_left (by rw [List.length_replicate]; omega)];simp
 have hset0 : (row l (i + 1)).set i 0 = row l (i + 1) := by
  obtain ⟨h1, h2⟩ := List.getElem?_eq_some_iff.1 hz;rw [← h2, List.set_getElem_self]
 have hrl := row_len hl (show i + 1 ≤ l.length by omega);refine Ok.count (fun s => s.1 - ((i : Int) + 1)) (l.length - (i + 1)) (fun k s => s.2 = (row l (i + 1)).set i (follow r.last (((l.drop (i + 1)).zip (chains (l.drop (i + 1)))).take k) 0)) (by simp only; omega) (by simp only [List.take_zero]; exact hset0.symm) ?_ ?_
 ·rintro k ⟨kk, many⟩ hk hx hm;simp only at hx hm
  have hkk : kk = ((i + 1 + k : Nat) : Int) := by omega
  subst hkk;subst hm
  have hlen : ((row l (i + 1)).set i (follow r.last (((l.drop (i + 1)).zip (chains (l.drop (i + 1)))).take k) 0)).length = 120 := by rw [List.length_set, hrl]
  have hd : (l.drop (i + 1))[k]? = l[i + 1 + k]? := by rw [List.getElem?_drop]
  have hck : k < (chains (l.drop (i + 1))).length := by rw [chains_len, List.length_drop]; omega
  have hdk : k < (l.drop (i + 1)).length := by rw [List.length_drop]; omega
  have hzip : ((l.drop (i + 1)).zip (chains (l.drop (i + 1))))[k]? = some ((l.drop (i + 1))[k], (chains (l.drop (i + 1)))[k]) := by
   rw [List.getElem?_zip_eq_some];exact ⟨List.getElem?_eq_getElem hdk, List.getElem?_eq_getElem hck⟩
  have hf : follow r.last (((l.drop (i + 1)).zip (chains (l.drop (i + 1)))).take (k + 1)) 0 = (if (l.drop (i + 1))[k].first > r.last then max (follow r.last (((l.drop (i + 1)).zip (chains (l.drop (i + 1)))).take k) 0) (chains (l.drop (i + 1)))[k] else follow r.last (((l.drop (i + 1)).zip (chains (l.drop (i + 1)))).take k) 0) := by
   rw [take_snoc hzip, follow, List.foldl_append];rfl
  have hri : (row l (i + 1))[i + 1 + k]? = some (chains (l.drop (i + 1)))[k] := by
   rw [row_get (by omega) (by omega), show i + 1 + k - (i + 1) = k by omega, List.getElem?_eq_getElem hck]
  have hA : l[i + 1 + k]? = some (l.drop (i + 1))[k] := by rw [← hd, List.getElem?_eq_getElem hdk]
  generalize hF : follow r.last (((l.drop (i + 1)).zip (chains (l.drop (i + 1)))).take k) 0 = F at *;unfold P_c_moved_L2;refine .ifp (by omega) (Ok.andx (P := fun m => m = (row l (i + 1)).set i (follow r.last (((l.drop (i + 1)).zip (chains (l.drop (i + 1)))).take (k + 1)) 0)) ?_ ?_)
  ·refine .el (by omega) fun a ha => ?_
   have ha := get_of ha rfl;rw [hA] at ha;cases ha;refine .el (by omega) fun b hb => ?_
   have hb := get_of hb rfl;rw [hr] at hb;cases hb;refine .ite (fun hc => ?_) (fun hc => ?_)
   ·refine .chk (by rw [hlen]; rfl) (.el (by rw [hlen]; omega) fun x hx1 => ?_)
    have hx1 := get_of hx1 rfl;rw [List.getElem?_set_self (by rw [hrl]; omega)] at hx1;cases hx1;refine .chk (by rw [hlen]; rfl) (.el (by rw [hlen]; omega) fun y hy1 => ?_)
    have hy1 := get_of hy1 rfl;rw [List.getElem?_set_ne (by omega), hri] at hy1;cases hy1;refine .chk (by rw [hlen]; rfl) (.el (by rw [hlen]; omega) fun w hw1 => .some ?_)
    show _ = _;rw [hf, if_pos hc, Int.toNat_natCast, List.set_set]
   ·refine .some ?_
    show _ = _;rw [hf, if_neg hc]
  ·rintro m rfl;exact .chk (i64_small (by omega)) (.some ⟨by simp only; omega, rfl⟩)
 ·rintro ⟨kk, many⟩ hx hm;simp only at hx hm;unfold P_c_moved_L2;refine .ifn (by omega) (.some ?_)
  show many = _;rw [hm, List.take_of_length_le (by rw [List.length_zip, chains_len, List.length_drop]; omega)]
theorem row_step {l : List S_copy_run} {i : Nat} {r : S_copy_run} (hr : l[i]? = some r) : (row l (i + 1)).set i (follow r.last ((l.drop (i + 1)).zip (chains (l.drop (i + 1)))) 0 + 1) = row l i := by
 have e : List.replicate (i + 1) (0 : Int) = List.replicate i 0 ++ [0] := List.replicate_succ';unfold row;rw [e, List.append_assoc, List.set_append_right _ _ (by rw [List.length_replicate]; omega), List.length_replicate, Nat.sub_self, drop_cons hr, chains];rfl
theorem moved_ok {l : List S_copy_run} {N : Nat} (hl : l.length ≤ 120) (hr : ∀ r ∈ l, RunOk N r) : P_c_moved l = some (movedOf l) := by
 refine Ok.get ?_;unfold P_c_moved
 have hcb := chains_bounds;refine Ok.andx (P := fun s => s = (top (chains l), row l 0)) (.chk (i64_small (by omega)) ?_) ?_
 ·refine Ok.count (fun s => ((l.length : Int) - 1) - s.2.1) l.length (fun k s => s.1 = top (chains (l.drop (l.length - k))) ∧ s.2.2 = row l (l.length - k)) (by simp only; omega) ⟨by simp [chains, top], ?_⟩ ?_ ?_
  ·simp only [Nat.sub_zero, row, List.drop_length, chains, List.nil_append];rw [List.replicate_append_replicate, show l.length + (120 - l.length) = 120 by omega]
  ·rintro k ⟨best, i, many⟩ hk hx ⟨hb, hm⟩;simp only at hx hb hm;obtain ⟨j, hj⟩ : ∃ j : Nat, j = l.length - 1 - k := ⟨_, rfl⟩
   have hi : i = (j : Int) := by omega
   subst hi
   have hjl : j < l.length := by omega
   obtain ⟨r, hrj⟩ : ∃ r, l[j]? = some r := ⟨_, List.getElem?_eq_getElem hjl⟩
   have e1 : l.length - k = j + 1 := by omega
   have e2 : l.length - (k + 1) = j := by omega
   rw [e1] at hb hm;subst hb hm
   have hset : ∀ x, (((row l (j + 1)).set j x).length : Int) * 1 = 120 := fun x => by rw [List.length_set, row_len hl (by omega)]; rfl
   have hch : chains (l.drop j) = (follow r.last ((l.drop (j + 1)).zip (chains (l.drop (j + 1)))) 0 + 1) :: chains (l.drop (j + 1)) := by rw [drop_cons hrj, chains]
   have hbd := hcb (l.drop j) (follow r.last ((l.drop (j + 1)).zip (chains (l.drop (j + 1)))) 0 + 1) (by rw [hch]; exact List.mem_cons_self)
   have hld : (l.drop j).length ≤ 120 := by rw [List.length_drop]; omega
   generalize hF : follow r.last ((l.drop (j + 1)).zip (chains (l.drop (j + 1)))) 0 = F at *;unfold P_c_moved_L1;refine .ifp (by omega) (Ok.andx (P := fun s => s = (top (chains (l.drop j)), row l j)) ?_ ?_)
   ·refine Ok.andx' (a := (row l (j + 1)).set j F) ?_ ?_
    ·have := inner_ok hl hrj;rw [hF] at this;rw [chk_pos (i64_small (by omega))];exact this
    ·refine .chk (hset _) (.el (by rw [List.length_set, row_len hl (by omega)]; omega) fun a ha => ?_)
     have ha := get_of ha rfl;rw [List.getElem?_set_self (by rw [row_len hl (by omega)]; omega)] at ha;cases ha;refine .chk (i64_small (by omega)) (.chk (hset _) (.el (by rw [List.length_set, row_len hl (by omega)]; omega) fun b hb => ?_));rw [Int.toNat_natCast, List.set_set];refine .chk (hset _) (.el (by rw [List.length_set, row_len hl (by omega)]; omega) fun c hc => .some ?_)
     have hc := get_of hc rfl;rw [List.getElem?_set_self (by rw [row_len hl (by omega)]; omega)] at hc;cases hc
     show _ = _
     have := row_step hrj;rw [hF] at this;rw [hch, top, this]
   ·rintro s rfl;refine .chk (i64_small (by omega)) (.some ⟨by simp only; omega, ?_, ?_⟩)
    ·simp only [e2]
    ·simp only [e2]
  ·rintro ⟨best, i, many⟩ hx ⟨hb, hm⟩;simp only at hx hb hm;unfold P_c_moved_L1;refine .ifn (by omega) (.some ?_)
   show _ = _;rw [hb, hm, Nat.sub_self, List.drop_zero]
 ·rintro s rfl
  have hrow : ∀ k (hk : k < l.length), (row l 0)[k]? = some ((chains l)[k]'(by rw [chains_len]; exact hk)) := fun k hk => by
   rw [row_get (Nat.zero_le _) hk, List.drop_zero, Nat.sub_zero, List.getElem?_eq_getElem (by rw [chains_len]; exact hk)]
  have hl120 := row_len hl (Nat.zero_le _)
  have htop := top_bounds (M := 120) (by omega) (chains l) fun m hm => by have := hcb l m hm; omega
  refine Ok.andx (P := fun s : Int × Int × Int × List Int => s.2.2.2 = movedOf l) (Ok.count (fun s : Int × Int × List Int × Int × Int × Int => s.2.1) l.length (fun k s => movedOf l = s.2.2.1 ++ movedFrom ((l.zip (chains l)).drop k) s.1 s.2.2.2.2.2 ∧ s.2.2.1.length ≤ k ∧ -200 - (k : Int) ≤ s.1 ∧ s.1 ≤ 120 ∧ (s.2.2.2 = (-1, -1, -1) ∨ 0 ≤ s.2.2.2.2.1 ∧ 0 ≤ s.2.2.2.2.2)) rfl ⟨by simp only [List.nil_append, List.drop_zero]; rfl, Nat.le_refl _, by simp only; omega, by simp only; omega, .inl rfl⟩ ?_ ?_) ?_
  ·rintro k ⟨best, x, items, li, lf, ll⟩ hk hx ⟨h1, h2, h3, h4, h5⟩;simp only at hx h1 h2 h3 h4 h5;subst hx
   have hck : k < (chains l).length := by rw [chains_len]; exact hk
   have hzip : (l.zip (chains l))[k]? = some (l[k], (chains l)[k]) := by
    rw [List.getElem?_zip_eq_some];exact ⟨List.getElem?_eq_getElem hk, List.getElem?_eq_getElem hck⟩
   have hrk := hr l[k] (List.getElem_mem hk);rw [drop_cons hzip, movedFrom] at h1;simp only at h1;unfold P_c_moved_L3;refine .ifp (by omega) (Ok.andx (P := fun s : Int × List Int × Int × Int × Int => movedOf l = s.2.1 ++ movedFrom ((l.zip (chains l)).drop (k + 1)) s.1 s.2.2.2.2 ∧ s.2.1.length ≤ k + 1 ∧ -200 - ((k : Int) + 1) ≤ s.1 ∧ s.1 ≤ 120 ∧ (s.2.2 = (-1, -1, -1) ∨ 0 ≤ s.2.2.2.1 ∧ 0 ≤ s.2.2.2.2)) ?_ ?_)
   ·refine .el (by omega) fun a ha => ?_
    have ha := get_of ha rfl;rw [List.getElem?_eq_getElem hk] at ha;cases ha;refine Ok.andx (P := fun b : Bool => b = true ↔ ((chains l)[k] = best ∧ l[k].first > ll)) ?_ ?_
    ·refine .chk (by rw [hl120]; rfl) (.el (by rw [hl120]; omega) fun m hm => ?_)
     have hm := get_of hm rfl;rw [hrow k hk] at hm;cases hm;refine .ite (fun hc => ?_) (fun hc => ?_)
     ·refine .ite (fun hd => ?_) (fun hd => ?_)
      ·exact .some (by simp only [true_iff]; exact ⟨hc, by rw [hd.2.2]; have := hrk.1; omega⟩)
      ·exact .some (by rw [decide_eq_true_iff]; exact ⟨fun h => ⟨hc, h⟩, fun h => h.2⟩)
     ·exact .some (by simp only [Bool.false_eq_true, false_iff]; exact fun h => hc h.1)
    ·rintro b hb;refine .ite (fun hc => ?_) (fun hc => ?_)
     ·rw [if_pos (hb.1 hc)] at h1;exact .chk (i64_small (by omega)) (.some ⟨h1, by simp only; omega, by simp only; omega, by simp only; omega, .inr ⟨hrk.1, hrk.2.2.1⟩⟩)
     ·rw [if_neg (fun h => hc (hb.2 h))] at h1;refine .chk (by simp; omega) (.some ⟨?_, by simp; omega, by simp only; omega, by simp only; omega, h5⟩);simp only;rw [h1, List.append_assoc];rfl
   ·rintro ⟨b', it', li', lf', ll'⟩ ⟨q1, q2, q3, q4, q5⟩;exact .chk (i64_small (by omega)) (.some ⟨rfl, q1, q2, by simp only at q3 ⊢; omega, q4, q5⟩)
  ·rintro ⟨best, x, items, li, lf, ll⟩ hx ⟨h1, h2, h3, h4, h5⟩;simp only at hx h1;unfold P_c_moved_L3;refine .ifn (by omega) (.some ?_)
   show items = _;rw [h1, List.drop_eq_nil_of_le (by rw [List.length_zip, chains_len]; omega), movedFrom, List.append_nil]
  ·rintro ⟨a, b, c, d⟩ h;exact .some h
end Go.Am
end
section
namespace Go.Am
set_option linter.unusedVariables false
def mateF (mt : List Int) (x : Int) : Int := match mt[x.toNat]? with | some m => m | none => -1
def isPiece (mt gone : List Int) (x : Int) : Bool := decide (mateF mt x < 0 ∨ mateF mt x > x ∨ mateF mt x ∉ gone)
def piecesOf (mt gone : List Int) : Int := (gone.countP (isPiece mt gone) : Nat)
theorem piecesOf_le (mt gone : List Int) : 0 ≤ piecesOf mt gone ∧ piecesOf mt gone ≤ gone.length := by
 unfold piecesOf
 have := List.countP_le_length (p := isPiece mt gone) (l := gone);omega
theorem mem_lostOf {n : Nat} {t : List Int} {x : Int} : x ∈ lostOf n t ↔ 0 ≤ x ∧ x < n ∧ x ∉ t := by
 unfold lostOf;simp only [List.mem_filter, List.mem_map, List.mem_range, decide_eq_true_eq]
 constructor
 ·rintro ⟨⟨i, hi, rfl⟩, h⟩; exact ⟨by omega, by omega, h⟩
 ·rintro ⟨h0, h1, h2⟩; exact ⟨⟨x.toNat, by omega, by omega⟩, h2⟩
theorem lostOf_sorted (n : Nat) (t : List Int) : (lostOf n t).Pairwise (· < ·) := by
 induction n with
 | zero => exact .nil
 | succ n ih =>
  rw [lostOf_succ];split
  ·rw [List.pairwise_append];refine ⟨ih, List.pairwise_singleton _ _, fun a ha b hb => ?_⟩;rw [List.mem_singleton] at hb;subst hb;exact (mem_lostOf.1 ha).2.1
  ·exact ih
theorem sorted_take {l : List Int} (hs : l.Pairwise (· < ·)) {k : Nat} {a x : Int} (ha : l[k]? = some a) : x ∈ l.take (k + 1) ↔ x ∈ l ∧ x ≤ a := by
 obtain ⟨hk, rfl⟩ := List.getElem?_eq_some_iff.1 ha;rw [List.pairwise_iff_getElem] at hs
 constructor
 ·intro h;refine ⟨List.mem_of_mem_take h, ?_⟩;obtain ⟨j, hj, rfl⟩ := List.mem_iff_getElem.1 h;rw [List.getElem_take];rw [List.length_take] at hj
  by_cases e : j = k
  ·subst e; exact Int.le_refl _
  ·exact Int.le_of_lt (hs j k (by omega) hk (by omega))
 ·rintro ⟨h, hle⟩;obtain ⟨j, hj, rfl⟩ := List.mem_iff_getElem.1 h
  have hjk : j ≤ k := by
   by_cases e : j ≤ k
   ·exact e
   ·have := hs k j hk hj (by omega); omega
  exact List.mem_iff_getElem.2 ⟨j, by rw [List.length_take]; omega, by rw [List.getElem_take]⟩
theorem pieces_ok {mt gone : List Int} (hs : gone.Pairwise (· < ·)) (hr : ∀ x ∈ gone, 0 ≤ x ∧ x < mt.length) (hl : gone.length ≤ 1000000) :
  ∃ m, iter (P_c_faults_L1 mt gone) (0, (fun _ => 0), 0) = some (m, piecesOf mt gone) := by
 suffices h : Ok (iter (P_c_faults_L1 mt gone) (0, (fun _ => 0), 0)) (fun s => s.2 = piecesOf mt gone) by
  obtain ⟨⟨m, p⟩, h1, h2⟩ := h;exact ⟨m, by rw [h1, ← h2]⟩
 refine Ok.count (fun s => s.1) gone.length (fun k (s : Int × (Int → Int) × Int) => s.2.1 = cntOf (gone.take k) ∧ s.2.2 = (((gone.take k).countP (isPiece mt gone) : Nat) : Int)) rfl ⟨rfl, rfl⟩ ?_ ?_
 ·rintro k ⟨x, m, fp⟩ hk hx ⟨hm, hp⟩;simp only at hx hm hp;subst hx hm hp;unfold P_c_faults_L1
  have hcl := List.countP_le_length (p := isPiece mt gone) (l := gone.take k)
  have htl : (gone.take k).length ≤ 1000000 := by rw [List.length_take]; omega
  refine .ifp (by omega) (Ok.andx (P := fun s : (Int → Int) × Int => s.1 = cntOf (gone.take (k + 1)) ∧ s.2 = (((gone.take (k + 1)).countP (isPiece mt gone) : Nat) : Int)) ?_ ?_)
  ·refine .el (by omega) fun a ha => ?_
   have ha := get_of ha rfl
   have har := hr a (List.mem_of_getElem? ha);refine .el har fun b hb => ?_
   have hmf : mateF mt a = b := by unfold mateF; rw [hb]
   have hc := cntOf_le (gone.take k) a
   have hsn : putI (cntOf (gone.take k)) a (cntOf (gone.take k) a + 1) = cntOf (gone.take (k + 1)) := by rw [take_snoc ha, cntOf_snoc]
   have hcp : (gone.take (k + 1)).countP (isPiece mt gone) = (gone.take k).countP (isPiece mt gone) + (if isPiece mt gone a = true then 1 else 0) := by
    rw [take_snoc ha, List.countP_append, List.countP_singleton]
   refine .chk (i64_small (by omega)) (Ok.andx (P := fun c : Bool => c = true ↔ isPiece mt gone a = true) ?_ ?_)
   ·rw [hsn];unfold isPiece;rw [hmf, decide_eq_true_iff];refine .ite (fun h => .some ?_) (fun h => .some ?_)
    ·simp only [true_iff]; exact .inl h
    ·rw [decide_eq_true_iff, cntOf_zero, sorted_take hs ha]
     constructor
     ·intro h2
      by_cases hb2 : b ∈ gone
      ·exact .inr (.inl (by have : ¬ b ≤ a := fun h3 => h2 ⟨hb2, h3⟩; omega))
      ·exact .inr (.inr hb2)
     ·rintro (h2 | h2 | h2) ⟨h3, h4⟩
      ·exact h h2
      ·omega
      ·exact h2 h3
   ·rintro c hcc;rw [hsn];refine .ite (fun h => ?_) (fun h => ?_)
    ·refine .chk (i64_small (by omega)) (.some ⟨rfl, ?_⟩);simp only;rw [hcp, if_pos (hcc.1 h)];rfl
    ·refine .some ⟨rfl, ?_⟩;simp only;rw [hcp, if_neg (fun e => h (hcc.2 e))];rfl
  ·rintro ⟨m', p'⟩ ⟨h1, h2⟩;exact .chk (i64_small (by omega)) (.some ⟨rfl, h1, h2⟩)
 ·rintro ⟨x, m, fp⟩ hx ⟨hm, hp⟩;simp only at hx hm hp;unfold P_c_faults_L1;refine .ifn (by omega) (.some ?_)
  show fp = _;rw [hp, List.take_length]; rfl
def TruthIn (n : Nat) (t : List Int) : Prop := ∀ x ∈ t, x < n
theorem runs_loop {lv : List Leaf} {t : List Int} (ht : t.length ≤ 120) (hin : TruthIn lv.length t) :
  ∃ m, iter (P_c_faults_L2 lv t) (0, [], [], [], (fun _ => 0)) = some (m, runsOf (gathOf lv) t, strangeOf t, twiceOf t) := by
 suffices h : Ok (iter (P_c_faults_L2 lv t) (0, [], [], [], (fun _ => 0))) (fun s => s.2 = (runsOf (gathOf lv) t, strangeOf t, twiceOf t)) by
  obtain ⟨⟨m, p⟩, h1, h2⟩ := h;exact ⟨m, by rw [h1, ← h2]⟩
 refine Ok.count (fun s => s.1) t.length (fun k s => s.2.1 = runsTo (gathOf lv) t k ∧ s.2.2.1 = idxTo isStrange t k ∧ s.2.2.2.1 = idxTo (isTwice t) t k ∧ ∀ a, 0 ≤ a → s.2.2.2.2 a = cntOf (t.take k) a) rfl ⟨rfl, rfl, rfl, fun a _ => by simp [cntOf]⟩ ?_ ?_
 ·rintro k ⟨x, l, st, tw, m⟩ hk hx ⟨hl, hst, htw, hm⟩;simp only at hx hl hst htw hm;subst hx hl hst htw
  have hro := runsTo_ok (g := gathOf lv) hin k
  have hs1 := idxTo_len isStrange t k
  have hs2 := idxTo_len (isTwice t) t k;unfold P_c_faults_L2;refine .ifp (by omega) (Ok.andx (P := fun s : List S_copy_run × List Int × List Int × (Int → Int) => s.1 = runsTo (gathOf lv) t (k + 1) ∧ s.2.1 = idxTo isStrange t (k + 1) ∧ s.2.2.1 = idxTo (isTwice t) t (k + 1) ∧ ∀ a, 0 ≤ a → s.2.2.2 a = cntOf (t.take (k + 1)) a) ?_ ?_)
  ·refine .el (by omega) fun n hn => ?_
   have hn := get_of hn rfl
   have hnl := hin n (List.mem_of_getElem? hn);rw [runsTo_succ hn, idxTo_succ hn, idxTo_succ hn];refine .ite (fun h0 => ?_) (fun h0 => ?_)
   ·have e1 : isPlain t k n = false := decide_eq_false (by omega)
    have e2 : isStrange k n = true := decide_eq_true h0
    have e3 : isTwice t k n = false := decide_eq_false (by omega);rw [e1, e2, e3];refine .chk (by simp; omega) (.some ⟨rfl, rfl, rfl, fun a ha => ?_⟩);simp only;rw [hm a ha, take_snoc hn, cntOf_snoc, putI_ne (by omega)]
   ·have hc := cntOf_le (t.take k) n
    have htl : (t.take k).length ≤ 120 := by rw [List.length_take]; omega
    have hmn := hm n (by omega)
    have e2 : isStrange k n = false := decide_eq_false h0;rw [e2]
    have hm' : ∀ a, 0 ≤ a → putI m n (m n + 1) a = cntOf (t.take (k + 1)) a := fun a ha => by
     rw [take_snoc hn, cntOf_snoc]
     by_cases e : a = n
     ·subst e; rw [putI_same, putI_same, hmn]
     ·rw [putI_ne e, putI_ne e, hm a ha]
    refine .chk (i64_small (by omega)) (.ite (fun h1 => ?_) (fun h1 => ?_))
    ·rw [putI_same, hmn] at h1
     have hin' := (cntOf_pos (t.take k) n).1 (by omega)
     have e1 : isPlain t k n = false := decide_eq_false (fun h => h.2 hin')
     have e3 : isTwice t k n = true := decide_eq_true ⟨by omega, hin'⟩;rw [e1, e3];exact .chk (by simp; omega) (.some ⟨rfl, rfl, rfl, hm'⟩)
    ·rw [putI_same, hmn] at h1
     have hin' : n ∉ t.take k := fun h => h1 (by have := (cntOf_pos (t.take k) n).2 h; omega)
     have e1 : isPlain t k n = true := decide_eq_true ⟨by omega, hin'⟩
     have e3 : isTwice t k n = false := decide_eq_false (fun h => hin' h.2);rw [e1, e3];generalize hL : runsTo (gathOf lv) t k = L at *;refine Ok.seqx ?_;refine .chk (i64_small (by omega)) (Ok.andx (P := fun b : Bool => (b = true ∧ ∃ r, L[L.length - 1]? = some r ∧ r.last < n ∧ gathOf lv r.last = gathOf lv n) ∨ (b = false ∧ rnStep (gathOf lv) L k n = L ++ [⟨k, n, n⟩])) ?_ ?_)
     ·refine .ite (fun h2 => ?_) (fun h2 => ?_)
      ·refine .el (by omega) fun r hr => ?_
       have hr : L[L.length - 1]? = some r := get_of hr (by omega)
       have hrk := hro.1 r (List.mem_of_getElem? hr);refine .ite (fun h3 => ?_) (fun h3 => ?_)
       ·refine .el (by omega) fun r' hr' => ?_
        have hr' : L[L.length - 1]? = some r' := get_of hr' (by omega);rw [hr] at hr';cases hr';refine .el ⟨hrk.2.2.1, hrk.2.2.2⟩ fun a ha => .el ⟨by omega, hnl⟩ fun b hb => .some ?_
        have ga : gathOf lv r.last = a.g := by unfold gathOf; rw [ha]
        have gb : gathOf lv n = b.g := by unfold gathOf; rw [hb]
        by_cases e : a.g = b.g
        ·exact .inl ⟨decide_eq_true e, r, hr, h3, by rw [ga, gb, e]⟩
        ·refine .inr ⟨decide_eq_false e, ?_⟩;unfold rnStep;rw [hr];simp only;rw [if_neg (fun h => e (by rw [← ga, ← gb]; exact h.2))]
       ·refine .some (.inr ⟨rfl, ?_⟩);unfold rnStep;rw [hr];simp only;rw [if_neg (fun h => h3 h.1)]
      ·refine .some (.inr ⟨rfl, ?_⟩)
       have : L = [] := List.eq_nil_of_length_eq_zero (by omega);subst this;rfl
     ·rintro b (⟨rfl, r, hr, h3, h4⟩ | ⟨rfl, h3⟩)
      ·have hlt := (List.getElem?_eq_some_iff.1 hr).1;refine .ifp rfl (.el (by omega) fun r' hr' => ?_)
       have hr' : L[L.length - 1]? = some r' := get_of hr' (by omega);rw [hr] at hr';cases hr';refine .some ⟨?_, rfl, rfl, hm'⟩;simp only;unfold rnStep;rw [hr];simp only;rw [if_pos (c := r.last < n ∧ gathOf lv r.last = gathOf lv n) ⟨h3, h4⟩, show ((L.length : Int) - 1).toNat = L.length - 1 by omega];simp only [if_true]
      ·refine .ifn (by simp) (.some ?_)
       show Ok _ _;refine .chk (by simp; omega) (.some ⟨?_, rfl, rfl, hm'⟩);simp only;rw [if_pos trivial, h3]
  ·rintro ⟨l', st', tw', m'⟩ ⟨q1, q2, q3, q4⟩;exact .chk (i64_small (by omega)) (.some ⟨rfl, q1, q2, q3, q4⟩)
 ·rintro ⟨x, l, st, tw, m⟩ hx ⟨hl, hst, htw, hm⟩;simp only at hx hl hst htw;unfold P_c_faults_L2;refine .ifn (by omega) (.some ?_)
  show (l, st, tw) = _;rw [hl, hst, htw];rfl
def allOf (n : Nat) (mt : List Int) (g : Int → Int) (t : List Int) : Int := piecesOf mt (lostOf n t) + (strangeOf t).length + (twiceOf t).length + (movedOf (runsOf g t)).length
theorem faults_ok {s : Int} {g : List Gat} {its : List Item} {lv : List Leaf} {mt t : List Int} (hlv : lv.length ≤ 120) (hmt : mt.length = lv.length) (ht : t.length ≤ 120) (hin : TruthIn lv.length t) :
  P_c_faults s g its lv mt t = some ([], lostOf lv.length t, piecesOf mt (lostOf lv.length t), strangeOf t, twiceOf t, movedOf (runsOf (gathOf lv) t), allOf lv.length mt (gathOf lv) t) := by
 refine Ok.get ?_;unfold P_c_faults
 have hl := lostOf_len lv.length t
 have hp := piecesOf_le mt (lostOf lv.length t)
 have h1 : (strangeOf t).length ≤ 120 := Nat.le_trans (idxTo_len _ _ _) ht
 have h2 : (twiceOf t).length ≤ 120 := Nat.le_trans (idxTo_len _ _ _) ht
 have hr := runsTo_ok (g := gathOf lv) hin t.length
 have hm := movedOf_len (runsOf (gathOf lv) t)
 have hrl : (runsOf (gathOf lv) t).length ≤ t.length := hr.2;refine .andx' (lost_ok (by omega) (by omega)) ?_;obtain ⟨m1, e1⟩ := pieces_ok (mt := mt) (lostOf_sorted lv.length t) (fun x hx => by have := mem_lostOf.1 hx; rw [hmt]; omega) (by omega);refine .andx' e1 ?_;obtain ⟨m2, e2⟩ := runs_loop ht hin;refine .andx' e2 ?_;refine .andx' (moved_ok (by omega) hr.1) ?_;refine .chk (i64_small (by omega)) (.chk (i64_small (by omega)) (.chk (i64_small (by omega)) (.some rfl)))
end Go.Am
end
section
namespace Go.Am
def BadOrder (l : List Int) : Prop := ∃ (i : Nat) (a b : Int), l[i]? = some a ∧ l[i + 1]? = some b ∧ b ≤ a
open Classical in
noncomputable def itemErr (l : List Int) (n : Int) : Int := if 4 < l.length then 3 else if ∃ x ∈ l, x < 0 ∨ n - 1 < x then 4 else if BadOrder l then 2 else 0
noncomputable def itemsErr (n : Int) : Nat → List Item → Option (Nat × Int)
 | _, [] => none
 | i, x :: l => if itemErr x.could.l n = 0 then itemsErr n (i + 1) l else some (i, itemErr x.could.l n)
def doubtsErr : Nat → Nat → List Item → Option Nat
 | _, _, [] => none
 | d, i, x :: l => if 3 < (if 1 < x.could.l.length then d + 1 else d) then some i else doubtsErr (if 1 < x.could.l.length then d + 1 else d) (i + 1) l
noncomputable def caseErr (s : Int) (g : List Gat) (its : List Item) : Int × Int × Int :=
 if (bookErr (bk s g)).2.2 = 0 then
  if 120 < (leavesOf (bk s g)).length then (1, 0, 3)
  else if 120 < its.length then (2, 0, 3)
  else match itemsErr (leavesOf (bk s g)).length 0 its with
   | some (i, e) => (2, (i : Int), e)
   | none => match doubtsErr 0 0 its with
    | some i => (3, (i : Int), 3)
    | none => (0, 0, 0)
 else (1, 0, (bookErr (bk s g)).2.2)
theorem in_ok {n lo hi : Int} : P_r4_in n lo hi = some (decide (lo ≤ n ∧ n ≤ hi)) := by
 unfold P_r4_in
 by_cases h : n ≥ lo
 ·rw [if_pos h]; simp [andx, show lo ≤ n from h]
 ·rw [if_neg h]; simp [andx, show ¬ lo ≤ n from h]
theorem item_ok {l : List Int} {n : Int} (hn : 0 ≤ n ∧ n ≤ 1000000) : P_r4_item l n = some (itemErr l n) := by
 refine Ok.get ?_;unfold P_r4_item itemErr;refine .ite (fun h => ?_) (fun h => ?_)
 ·rw [if_pos (by omega)]; exact .some rfl
 ·rw [if_neg (by omega)];refine Ok.seqx (Ok.count id l.length (fun k s => ∀ x ∈ l.take k, ¬ (x < 0 ∨ n - 1 < x)) rfl (by simp) ?_ ?_)
  ·rintro k x hk hx hi;simp only [id] at hx;unfold P_r4_item_L1;refine .ifp (by omega) (.el (by omega) fun a ha => .chk (i64_small (by omega)) (.andx' in_ok ?_))
   have ha := get_of ha hx;refine .ite (fun hc => ?_) (fun hc => ?_)
   ·refine .chk (i64_small (by omega)) (.some ⟨by simp only [id]; omega, ?_⟩)
    show ∀ y ∈ l.take (k + 1), _;rw [take_snoc ha];intro y hy
    rcases List.mem_append.1 hy with hy | hy
    ·exact hi y hy
    ·simp at hy; subst hy; simp at hc; omega
   ·refine .some ?_
    show 4 = _;rw [if_pos ⟨a, List.mem_of_getElem? ha, by simp at hc; omega⟩]
  ·rintro x hx hi;simp only [id] at hx;unfold P_r4_item_L1;rw [List.take_length] at hi;refine .ifn (by omega) (.some ?_)
   show Ok _ _;rw [if_neg (fun ⟨y, h1, h2⟩ => hi y h1 h2)];refine Ok.seqx (Ok.iter (fun i => 1 ≤ i ∧ ∀ (k : Nat) (a b : Int), (k : Int) + 1 < i → l[k]? = some a → l[k + 1]? = some b → a < b) (fun i => l.length - i.toNat) ⟨by omega, fun k a b h => by omega⟩ ?_);rintro i ⟨h1, h2⟩;unfold P_r4_item_L2;refine .ite (fun hc => ?_) (fun hc => ?_)
   ·refine .el (by omega) fun b hb => .chk (i64_small (by omega)) (.el (by omega) fun a ha => ?_)
    have e : i.toNat = (i - 1).toNat + 1 := by omega
    rw [e] at hb;refine .ite (fun hd => .some ?_) (fun hd => .chk (i64_small (by omega)) (.some ⟨⟨by omega, ?_⟩, by simp only; omega⟩))
    ·show 2 = _;rw [if_pos ⟨_, a, b, ha, hb, hd⟩]
    ·intro k a' b' hk ha' hb'
     by_cases hk' : (k : Int) + 1 < i
     ·exact h2 k a' b' hk' ha' hb'
     ·have : k = (i - 1).toNat := by omega
      subst this;rw [ha] at ha'; rw [hb] at hb';cases ha'; cases hb';omega
   ·refine .some ?_
    show Ok _ _;refine .some ?_;rw [if_neg];rintro ⟨k, a, b, ha, hb, hd⟩
    have := (List.getElem?_eq_some_iff.1 hb).1
    have := h2 k a b (by omega) ha hb;omega
theorem itemsErr_drop {n : Int} {l : List Item} {k : Nat} {x : Item} (h : l[k]? = some x) : itemsErr n k (l.drop k) = if itemErr x.could.l n = 0 then itemsErr n (k + 1) (l.drop (k + 1)) else some (k, itemErr x.could.l n) := by
 rw [drop_cons h]; rfl
theorem doubtsErr_drop {d : Nat} {l : List Item} {k : Nat} {x : Item} (h : l[k]? = some x) : doubtsErr d k (l.drop k) = if 3 < (if 1 < x.could.l.length then d + 1 else d) then some k else doubtsErr (if 1 < x.could.l.length then d + 1 else d) (k + 1) (l.drop (k + 1)) := by
 rw [drop_cons h]; rfl
theorem r4_Check_ok {s : Int} {g : List Gat} {its : List Item} : P_r4_Check s g its = some (caseErr s g its) := by
 refine Ok.get ?_;unfold P_r4_Check caseErr;refine .andx' (x := P_r1_Check s g) rfl ?_;dsimp only
 by_cases h0 : (bookErr (bk s g)).2.2 = 0
 ·have hf := book_fits h0
  have hall : P_r1_All s g = some (leavesOf (bk s g)) := by unfold P_r1_All; rw [chk_pos hf]
  have hlen := leaves_len hf;rw [if_pos h0, if_pos h0, hall];simp only [andx];generalize hL : leavesOf (bk s g) = lv at hlen
  by_cases h1 : 120 < lv.length
  ·rw [if_pos (show decide ((lv.length : Int) > 120) = true by simp; omega), if_pos h1];simp only;refine .ifp (by omega) (.some rfl)
  ·rw [if_neg (show ¬ decide ((lv.length : Int) > 120) = true by simp; omega), if_neg h1];simp only [h0];refine .ifn (by simp) ?_
   by_cases h2 : 120 < its.length
   ·rw [if_pos h2]; refine .ifp (by omega) (.some rfl)
   ·rw [if_neg h2];refine .ifn (by omega) (Ok.seqx (Ok.count id its.length (fun k _ => itemsErr lv.length 0 its = itemsErr lv.length k (its.drop k)) rfl rfl ?_ ?_))
    ·rintro k i hk hi hI;simp only [id] at hi;subst hi;unfold P_r4_Check_L1;refine .ifp (by omega) (.el (by omega) fun x hx => .andx' (item_ok (by omega)) ?_)
     have hx := get_of hx rfl;rw [itemsErr_drop hx] at hI;refine .ite (fun hc => ?_) (fun hc => ?_)
     ·rw [if_neg hc] at hI;refine .some ?_
      show _ = _;rw [hI]
     ·rw [if_pos (by omega)] at hI;exact .chk (i64_small (by omega)) (.some ⟨rfl, hI⟩)
    ·rintro i hi hI;simp only [id] at hi;subst hi;unfold P_r4_Check_L1;rw [List.drop_length] at hI;refine .ifn (by omega) (.some ?_)
     show Ok _ _;rw [hI];simp only [itemsErr];refine Ok.seqx (Ok.count (σ := Int × Int) Prod.snd its.length (fun k s => ∃ d : Nat, s.1 = d ∧ d ≤ 3 ∧ doubtsErr 0 0 its = doubtsErr d k (its.drop k)) rfl ⟨0, rfl, by omega, rfl⟩ ?_ ?_)
     ·rintro k ⟨dd, i⟩ hk hi ⟨d, hd, hd3, hI⟩;simp only at hi hd;subst hi hd;unfold P_r4_Check_L2;refine .ifp (by omega) (Ok.seqx ?_);refine Ok.andx (P := fun j => ∃ x, its[k]? = some x ∧ j = ((if 1 < x.could.l.length then d + 1 else d : Nat) : Int)) (.el (by omega) fun x hx => ?_) ?_
      ·have hx := get_of hx rfl;refine .ite (fun hc => .chk (i64_small (by omega)) (.some ⟨x, hx, ?_⟩)) (fun hc => .some ⟨x, hx, ?_⟩)
       ·rw [if_pos (by omega)]; rfl
       ·rw [if_neg (by omega)]
      ·rintro j ⟨x, hx, rfl⟩;rw [doubtsErr_drop hx] at hI;generalize (if 1 < x.could.l.length then d + 1 else d) = e at hI;refine .ite (fun hc => ?_) (fun hc => ?_)
       ·rw [if_pos (by omega)] at hI;refine .some ?_
        show _ = _;rw [hI]
       ·rw [if_neg (by omega)] at hI;refine .some ?_
        show Ok _ _;exact .chk (i64_small (by omega)) (.some ⟨rfl, e, rfl, by omega, hI⟩)
     ·rintro ⟨dd, i⟩ hi ⟨d, hd, hd3, hI⟩;simp only at hi hd;subst hi hd;unfold P_r4_Check_L2;rw [List.drop_length] at hI;refine .ifn (by omega) (.some ?_)
      show Ok _ _;rw [hI];exact .some rfl
 ·rw [if_neg h0, if_neg h0];simp only [andx];rw [if_neg (by simp)];simp only;exact .ifp h0 (.some rfl)
end Go.Am
end
section
namespace Go.Am
noncomputable def lvs (s : Int) (g : List Gat) : List Leaf := leavesOf (bk s g)
noncomputable def matesTo (s : Int) (g : List Gat) (n : Nat) : List Int := (List.range n).map fun n => pairNo (bk s g) n
noncomputable def matesOf (s : Int) (g : List Gat) : List Int := matesTo s g (lvs s g).length
theorem matesTo_len (s : Int) (g : List Gat) (n : Nat) : (matesTo s g n).length = n := by simp [matesTo]
theorem matesTo_succ (s : Int) (g : List Gat) (n : Nat) : matesTo s g (n + 1) = matesTo s g n ++ [pairNo (bk s g) n] := by
 unfold matesTo; rw [List.range_succ, List.map_append]; rfl
theorem itemsErr_pos : ∀ (l : List Item) (i : Nat) (n : Int), ∀ x, itemsErr n i l = some x → x.2 ≠ 0 := by
 intro l
 induction l with
 | nil => intro i n x h; cases h
 | cons a l ih =>
  intro i n x h;unfold itemsErr at h;split at h
  ·exact ih _ _ _ h
  ·cases h; assumption
noncomputable def openRes (s : Int) (g : List Gat) (its : List Item) : Sum (Int × Int × Int) (Int × (GS encL) × (List Int) × Int × Int × Int) :=
 if (caseErr s g its).2.2 = 0 then .inr (s, GSo true encL (lvs s g), matesOf s g, 0, 0, 0) else .inl (caseErr s g its)
theorem outside_ok {lo hi : Int} {x : List Int} (h : x.length ≤ 1000000) : P_c_outside lo hi x = some (decide (∃ n ∈ x, n < lo ∨ hi < n)) := by
 unfold P_c_outside;rw [chk_pos (by omega)]
theorem order_ok {x44 : Int} {it : Item} (hl : it.could.l.length ≤ 4) {Q : Ex Unit (Stp Int (Ex Unit (Sum (Int × Int × Int) (Int × (GS encL) × (List Int) × Int × Int × Int)))) → Prop}
  (h1 : BadOrder it.could.l → Q (.rt (.dn (.rt (.inl (2, x44, 2)))))) (h2 : ¬ BadOrder it.could.l → Q (.nx ())) : Ok (iter (P_c_open_L2 x44 it) 0) Q := by
 refine Ok.iter (fun i => 0 ≤ i ∧ ∀ (k : Nat) (a b : Int), (k : Int) + 1 < i → it.could.l[k]? = some a → it.could.l[k + 1]? = some b → a < b) (fun i => it.could.l.length - i.toNat) ⟨by omega, fun k a b h => by omega⟩ ?_;rintro i ⟨h0, hI⟩;unfold P_c_open_L2;refine .ite (fun hc => ?_) (fun hc => ?_)
 ·refine Ok.seqx (.el (by omega) fun b hb => ?_)
  by_cases hi : i > 0
  ·rw [if_pos hi];refine Ok.andx (P := fun c => ∃ a, it.could.l[(i - 1).toNat]? = some a ∧ c = decide (b ≤ a)) (.chk (i64_small (by omega)) (.el (by omega) fun a ha => .some ⟨a, ha, rfl⟩)) ?_;rintro c ⟨a, ha, rfl⟩
   have e : i.toNat = (i - 1).toNat + 1 := by omega
   rw [e] at hb;refine .ite (fun hd => .some ?_) (fun hd => .some ?_)
   ·exact h1 ⟨_, a, b, ha, hb, by simpa using hd⟩
   ·refine .chk (i64_small (by omega)) (.some ⟨⟨by omega, ?_⟩, by simp only; omega⟩);intro k a' b' hk ha' hb'
    by_cases hk' : (k : Int) + 1 < i
    ·exact hI k a' b' hk' ha' hb'
    ·have : k = (i - 1).toNat := by omega
     subst this;rw [ha] at ha'; rw [hb] at hb';cases ha'; cases hb'
     have : ¬ b ≤ a := by simpa using hd
     omega
  ·rw [if_neg hi];simp only [andx];rw [if_neg (by simp)];refine .some ?_
   show Ok _ _;exact .chk (i64_small (by omega)) (.some ⟨⟨by omega, fun k a b hk => by omega⟩, by simp only; omega⟩)
 ·refine .some ?_;refine h2 ?_;rintro ⟨k, a, b, ha, hb, hd⟩
  have := (List.getElem?_eq_some_iff.1 hb).1
  have := hI k a b (by omega) ha hb;omega
theorem mate_ok {s : Int} {g : List Gat} {n : Nat} (h0 : (bookErr (bk s g)).2.2 = 0) (hn : n < (lvs s g).length) : (if ¬ (mateOf (bk s g) n).2 = 0 then (-1 : Int) else (mateOf (bk s g) n).1) = pairNo (bk s g) n := by
 rcases mate_cases h0 hn with h | ⟨h, h'⟩
 ·rw [h]; simp
 ·rw [h, h']; simp
theorem mates_ok {s : Int} {g : List Gat} (h0 : (bookErr (bk s g)).2.2 = 0) (hl : (lvs s g).length ≤ 120) : iter (P_c_open_L4 s g (lvs s g)) (0, []) = some (matesOf s g) := by
 refine Ok.get (Ok.count (σ := Int × List Int) Prod.fst (lvs s g).length (fun k x => x.2 = matesTo s g k) rfl rfl ?_ ?_)
 ·rintro k ⟨i, l⟩ hk hi hl';simp only at hi hl';subst hi hl';unfold P_c_open_L4;refine .ifp (by omega) (Ok.andx (P := fun l => l = matesTo s g (k + 1)) ?_ ?_)
  ·refine .andx' (x := P_q_Mate s g k) (a := mateOf (bk s g) k) rfl ?_
   have hme := mate_ok h0 hk;generalize mateOf (bk s g) (k : Int) = me at hme;obtain ⟨m, e⟩ := me;dsimp only at hme ⊢;refine Ok.andx (P := fun m => m = pairNo (bk s g) k) ?_ ?_
   ·refine .ite (fun hc => .some ?_) (fun hc => .some ?_)
    ·rw [if_pos hc] at hme; exact hme
    ·rw [if_neg hc] at hme; exact hme
   ·rintro m rfl
    have := matesTo_len s g k;exact .chk (by simp; omega) (.some (matesTo_succ s g k).symm)
  ·rintro l rfl;exact .chk (i64_small (by omega)) (.some ⟨rfl, rfl⟩)
 ·rintro ⟨i, l⟩ hi hl';simp only at hi hl';subst hi hl';unfold P_c_open_L4;exact .ifn (by omega) (.some rfl)
theorem open_ok {s : Int} {g : List Gat} {its : List Item} : P_c_open s g its = some (openRes s g its) := by
 refine Ok.get ?_;unfold P_c_open openRes caseErr;refine .andx' (x := P_q_Check s g) rfl ?_;dsimp only
 by_cases h0 : (bookErr (bk s g)).2.2 = 0
 ·rw [if_pos h0];refine .ifn (fun h => h h0) (.andx' (x := P_q_Leaves s g) (a := (leavesOf (bk s g), 0)) (by unfold P_q_Leaves; rw [if_pos h0, h0]) ?_);dsimp only
  have hlen := leaves_len (book_fits h0)
  have hmt := mates_ok (s := s) (g := g) h0;unfold lvs at hmt ⊢;generalize leavesOf (bk s g) = lv at hlen hmt
  by_cases h1 : 120 < lv.length
  ·rw [if_pos h1];exact .ifp (by omega) (.some (by simp))
  ·rw [if_neg h1];refine .ifn (by omega) ?_
   by_cases h2 : 120 < its.length
   ·rw [if_pos h2];exact .ifp (by omega) (.some (by simp))
   ·rw [if_neg h2];refine .ifn (by omega) (Ok.seqx (Ok.count id its.length (fun k _ => itemsErr lv.length 0 its = itemsErr lv.length k (its.drop k)) rfl rfl ?_ ?_))
    ·rintro k i hk hi hI;simp only [id] at hi;subst hi;unfold P_c_open_L1;refine .ifp (by omega) (Ok.seqx (.el (by omega) fun x hx => ?_))
     have hx := get_of hx rfl;rw [itemsErr_drop hx] at hI
     have key : ∀ e : Int, itemErr x.could.l lv.length = e → e ≠ 0 → (Sum.inl (2, (k : Int), e) : Sum (Int × Int × Int) (Int × (GS encL) × (List Int) × Int × Int × Int)) = (if (match itemsErr lv.length 0 its with | some (i, e) => ((2 : Int), (i : Int), e) | none => match doubtsErr 0 0 its with | some i => (3, (i : Int), 3) | none => (0, 0, 0)).2.2 = 0 then .inr (s, GSo true encL lv, matesOf s g, 0, 0, 0) else .inl (match itemsErr lv.length 0 its with | some (i, e) => ((2 : Int), (i : Int), e) | none => match doubtsErr 0 0 its with | some i => (3, (i : Int), 3) | none => (0, 0, 0))) := by
      intro e he h;rw [he, if_neg h] at hI;rw [hI];simp [h]
     unfold itemErr at hI key;refine .ite (fun hc => ?_) (fun hc => ?_)
     ·exact .some (key 3 (by rw [if_pos (by omega)]) (by omega))
     ·rw [if_neg (by omega : ¬ 4 < x.could.l.length)] at hI key;refine .chk (i64_small (by omega)) (.andx' (outside_ok (by omega)) ?_);refine .ite (fun hd => ?_) (fun hd => ?_)
      ·exact .some (key 4 (by rw [if_pos (by simpa using hd)]) (by omega))
      ·have hd' : ¬ ∃ n ∈ x.could.l, n < 0 ∨ (lv.length : Int) - 1 < n := by simpa using hd
       rw [if_neg hd'] at hI key;refine order_ok (by omega) (fun hb => ?_) (fun hb => ?_)
       ·exact key 2 (by rw [if_pos hb]) (by omega)
       ·rw [if_neg hb, if_pos rfl] at hI
        show Ok _ _;exact .chk (i64_small (by omega)) (.some ⟨rfl, hI⟩)
    ·rintro i hi hI;simp only [id] at hi;subst hi;unfold P_c_open_L1;rw [List.drop_length] at hI;refine .ifn (by omega) (.some ?_)
     show Ok _ _;rw [hI];simp only [itemsErr];refine Ok.seqx (Ok.count (σ := Int × Int) Prod.snd its.length (fun k s => ∃ d : Nat, s.1 = d ∧ d ≤ 3 ∧ doubtsErr 0 0 its = doubtsErr d k (its.drop k)) rfl ⟨0, rfl, by omega, rfl⟩ ?_ ?_)
     ·rintro k ⟨dd, i⟩ hk hi ⟨d, hd, hd3, hI⟩;simp only at hi hd;subst hi hd;unfold P_c_open_L3;refine .ifp (by omega) (Ok.seqx (.el (by omega) fun x hx => ?_))
      have hx := get_of hx rfl;rw [doubtsErr_drop hx] at hI;refine Ok.andx (P := fun j => j = ((if 1 < x.could.l.length then d + 1 else d : Nat) : Int)) ?_ ?_
      ·refine .ite (fun hc => .chk (i64_small (by omega)) (.some ?_)) (fun hc => .some ?_)
       ·rw [if_pos (by omega)]; rfl
       ·rw [if_neg (by omega)]
      ·rintro j rfl;generalize (if 1 < x.could.l.length then d + 1 else d) = e at hI;refine .ite (fun hc => ?_) (fun hc => ?_)
       ·rw [if_pos (by omega)] at hI;refine .some ?_
        show _ = _;rw [hI];simp
       ·rw [if_neg (by omega)] at hI;refine .some ?_
        show Ok _ _;exact .chk (i64_small (by omega)) (.some ⟨rfl, e, rfl, by omega, hI⟩)
     ·rintro ⟨dd, i⟩ hi ⟨d, hd, hd3, hI⟩;simp only at hi hd;subst hi hd;unfold P_c_open_L3;rw [List.drop_length] at hI;refine .ifn (by omega) (.some ?_)
      show Ok _ _;rw [hI];refine .andx' (hmt (by omega)) (.some ?_);simp [doubtsErr]
 ·rw [if_neg h0];exact .ifp h0 (.some (by rw [if_neg h0]))
end Go.Am
end
section
namespace Go.Am
theorem doubts_le : ∀ (l : List Item) (d i : Nat), d ≤ 3 → doubtsErr d i l = none → d + l.countP (fun x => decide (1 < x.could.l.length)) ≤ 3 := by
 intro l
 induction l with
 | nil => intro d i hd _; simpa using hd
 | cons x l ih =>
  intro d i hd h;unfold doubtsErr at h;rw [List.countP_cons]
  by_cases hx : 1 < x.could.l.length
  ·simp only [hx, if_true, decide_true] at h ⊢;split at h
   ·cases h
   ·have := ih _ _ (by omega) h;omega
  ·simp only [hx, if_false, decide_false] at h ⊢;split at h
   ·cases h
   ·have := ih _ _ (by omega) h
    simpa using this
theorem items_ok {n : Int} : ∀ (l : List Item) (i : Nat), itemsErr n i l = none → ∀ x ∈ l, itemErr x.could.l n = 0 := by
 intro l
 induction l with
 | nil => intro i _ x hx; simp at hx
 | cons a l ih =>
  intro i h x hx;unfold itemsErr at h;split at h
  ·rename_i h0
   rcases List.mem_cons.1 hx with rfl | hx
   ·exact h0
   ·exact ih _ h x hx
  ·cases h
theorem item_facts {l : List Int} {n : Int} (h : itemErr l n = 0) : l.length ≤ 4 ∧ (∀ x ∈ l, 0 ≤ x ∧ x ≤ n - 1) ∧ ¬ BadOrder l := by
 unfold itemErr at h;split at h
 ·omega
 ·split at h
  ·omega
  ·rename_i h1 h2
   split at h
   ·omega
   ·rename_i h3
    refine ⟨by omega, fun x hx => ?_, h3⟩
    have : ¬ (x < 0 ∨ n - 1 < x) := fun k => h2 ⟨x, hx, k⟩
    omega
def wid : List Item → Nat
 | [] => 1
 | x :: l => (chs x).length * wid l
theorem comps_len : ∀ (l : List Item) (p : List Int), (comps p l).length = wid l := by
 intro l
 induction l with
 | nil => intro p; rfl
 | cons x l ih =>
  intro p;unfold comps wid;rw [List.length_flatMap]
  have : ((chs x).map fun c => (comps (p ++ [c]) l).length) = (chs x).map fun _ => wid l := by simp [ih]
  rw [this];simp [List.map_const', List.sum_replicate_nat]
theorem chs_len (x : Item) (h : x.could.l.length ≤ 4) : 1 ≤ (chs x).length ∧ (chs x).length ≤ 4 ∧ (1 < (chs x).length ↔ 1 < x.could.l.length) := by
 unfold chs
 by_cases h0 : x.could.l = []
 ·rw [if_pos h0]; simp [h0]
 ·rw [if_neg h0]
  have : x.could.l.length ≠ 0 := fun e => h0 (List.eq_nil_of_length_eq_zero e)
  omega
theorem wid_le : ∀ (l : List Item), (∀ x ∈ l, x.could.l.length ≤ 4) → 1 ≤ wid l ∧ wid l ≤ 4 ^ l.countP (fun x => decide (1 < x.could.l.length)) := by
 intro l
 induction l with
 | nil => intro _; simp [wid]
 | cons x l ih =>
  intro h
  have hx := chs_len x (h x (by simp));obtain ⟨h1, h2⟩ := ih fun y hy => h y (by simp [hy])
  unfold wid;rw [List.countP_cons];refine ⟨Nat.mul_pos hx.1 h1, ?_⟩
  by_cases hc : 1 < x.could.l.length
  ·simp only [hc, decide_true, if_true, Nat.pow_succ];rw [Nat.mul_comm];exact Nat.mul_le_mul h2 hx.2.1
  ·have : (chs x).length = 1 := by have := hx.2.2; omega
   simp only [hc, decide_false, this]
   simpa using h2
def lev : List (List Int) → List Item → List (List Int)
 | out, [] => out
 | out, x :: l => lev (out.flatMap fun o => (chs x).map fun c => o ++ [c]) l
end Go.Am
end
section
namespace Go.Am
set_option linter.unusedVariables false
structure GoodCase (s : Int) (g : List Gat) (its : List Item) : Prop where
 b0 : (bookErr (bk s g)).2.2 = 0
 nl : (lvs s g).length ≤ 120
 il : its.length ≤ 120
 few : ∀ x ∈ its, x.could.l.length ≤ 4
 rng : ∀ x ∈ its, ∀ n ∈ x.could.l, 0 ≤ n ∧ n ≤ ((lvs s g).length : Int) - 1
 dbt : its.countP (fun x => decide (1 < x.could.l.length)) ≤ 3
theorem case_good {s : Int} {g : List Gat} {its : List Item} (h : (caseErr s g its).2.2 = 0) : GoodCase s g its := by
 unfold caseErr at h
 by_cases hb : (bookErr (bk s g)).2.2 = 0
 ·rw [if_pos hb] at h
  by_cases h1 : 120 < (leavesOf (bk s g)).length
  ·rw [if_pos h1] at h; simp at h
  ·rw [if_neg h1] at h
   by_cases h2 : 120 < its.length
   ·rw [if_pos h2] at h; simp at h
   ·rw [if_neg h2] at h;split at h
    ·rename_i i e he
     exact absurd h (itemsErr_pos _ _ _ _ he)
    ·rename_i he
     split at h
     ·simp at h
     ·rename_i hd
      have hi := fun x hx => item_facts (items_ok _ _ he x hx)
      exact ⟨hb, by unfold lvs; omega, by omega, fun x hx => (hi x hx).1, fun x hx => (hi x hx).2.1, by simpa using doubts_le _ _ _ (by omega) hd⟩
 ·rw [if_neg hb] at h; exact absurd h hb
theorem GoodCase.wid {s : Int} {g : List Gat} {its : List Item} (h : GoodCase s g its) : Go.Am.wid its ≤ 64 :=
 Nat.le_trans (wid_le _ h.few).2 (Nat.le_trans (Nat.pow_le_pow_right (by omega) h.dbt) (by decide))
theorem GoodCase.take {s : Int} {g : List Gat} {its : List Item} (h : GoodCase s g its) (k : Nat) : GoodCase s g (its.take k) :=
  ⟨h.b0, h.nl, Nat.le_trans (by rw [List.length_take]; omega) h.il, fun x hx => h.few x (List.mem_of_mem_take hx), fun x hx => h.rng x (List.mem_of_mem_take hx),
    Nat.le_trans ((List.take_sublist k its).countP_le) h.dbt⟩
end Go.Am
end
section
namespace Go.Am
set_option linter.unusedVariables false
structure GoodBook (s : Int) (g : List Gat) : Prop where
 b0 : (bookErr (bk s g)).2.2 = 0
 nl : (lvs s g).length ≤ 120
theorem GoodCase.book {s : Int} {g : List Gat} {its : List Item} (h : GoodCase s g its) : GoodBook s g := ⟨h.b0, h.nl⟩
theorem All1_ok {s : Int} {g : List Gat} (h : GoodBook s g) : P_r1_All s g = some (lvs s g) := by unfold P_r1_All; rw [chk_pos (book_fits h.b0)]; rfl
theorem mates_len (s : Int) (g : List Gat) : (matesOf s g).length = (lvs s g).length := matesTo_len _ _ _
theorem mem_idxTo {p : Nat → Int → Bool} {t : List Int} {i : Nat} {n : Int} (hn : t[i]? = some n) : ∀ k, (i : Int) ∈ idxTo p t k ↔ i < k ∧ p i n = true := by
 intro k
 induction k with
 | zero => simp [idxTo]
 | succ k ih =>
  rw [idxTo, List.mem_append, ih]
  constructor
  ·rintro (⟨h1, h2⟩ | h)
   ·exact ⟨by omega, h2⟩
   ·split at h
    ·rename_i m hm
     split at h
     ·rename_i hp
      rw [List.mem_singleton] at h
      have : i = k := by omega
      subst this;rw [hn] at hm;cases hm;exact ⟨by omega, hp⟩
     ·cases h
    ·cases h
  ·rintro ⟨h1, h2⟩
   by_cases e : i = k
   ·subst e;rw [hn];simp only [h2, if_true];exact .inr (List.mem_singleton_self _)
   ·exact .inl ⟨by omega, h2⟩
theorem idxTo_nat {p : Nat → Int → Bool} {t : List Int} : ∀ k, ∀ x ∈ idxTo p t k, ∃ i : Nat, x = i ∧ i < k ∧ ∃ n, t[i]? = some n ∧ p i n = true := by
 intro k
 induction k with
 | zero => intro x h; cases h
 | succ k ih =>
  intro x h;rw [idxTo, List.mem_append] at h
  rcases h with h | h
  ·obtain ⟨i, h1, h2, h3⟩ := ih x h;exact ⟨i, h1, by omega, h3⟩
  ·split at h
   ·rename_i m hm
    split at h
    ·rename_i hp
     rw [List.mem_singleton] at h;exact ⟨k, h, by omega, m, hm, hp⟩
    ·cases h
   ·cases h
end Go.Am
end
section
namespace Go.Am
set_option linter.unusedVariables false
theorem follow_cons (last : Int) (p : S_copy_run × Int) (ps : List (S_copy_run × Int)) (a : Int) : follow last (p :: ps) a = follow last ps (if p.1.first > last then max a p.2 else a) := rfl
theorem follow_ge (last : Int) : ∀ (ps : List (S_copy_run × Int)) (a : Int), a ≤ follow last ps a := by
 intro ps
 induction ps with
 | nil => intro a; exact Int.le_refl _
 | cons p ps ih =>
  intro a;rw [follow_cons]
  have := ih (if p.1.first > last then max a p.2 else a);split at this <;> rename_i h
  ·rw [if_pos h]; omega
  ·rw [if_neg h]; exact this
def behind (l : List S_copy_run) (i : Nat) : List (S_copy_run × Int) := (l.drop (i + 1)).zip (chains (l.drop (i + 1)))
theorem top_follow (last : Int) : ∀ (ps : List (S_copy_run × Int)) (a : Int), (∀ p ∈ ps, p.1.first > last) → follow last ps a = max a (top (ps.map (·.2))) ∨ a < 0 := by
 intro ps
 induction ps with
 | nil => intro a _; simp only [follow, List.foldl_nil, List.map_nil, top]; omega
 | cons p ps ih =>
  intro a h;rw [follow_cons, if_pos (h p List.mem_cons_self), List.map_cons, top]
  have := ih (max a p.2) fun q hq => h q (List.mem_cons_of_mem _ hq)
  omega
end Go.Am
end
section
namespace Go.Am
set_option linter.unusedVariables false
theorem truths_in {s : Int} {g : List Gat} {its : List Item} (h : GoodCase s g its) : ∀ t ∈ truthsOf its, t.length = its.length ∧ ∀ x ∈ t, x = -1 ∨ 0 ≤ x ∧ x < (lvs s g).length := by
  suffices k : ∀ (l : List Item) (p t : List Int), (∀ x ∈ l, ∀ n ∈ x.could.l, 0 ≤ n ∧ n ≤ ((lvs s g).length : Int) - 1) → (∀ x ∈ p, x = -1 ∨ 0 ≤ x ∧ x < (lvs s g).length) → t ∈ comps p l → t.length = p.length + l.length ∧ ∀ x ∈ t, x = -1 ∨ 0 ≤ x ∧ x < (lvs s g).length by
    intro t ht
    have := k its [] t h.rng (by simp) ht
    exact ⟨by simpa using this.1, this.2⟩
  intro l
  induction l with
  | nil =>
    intro p t _ hp ht
    rw [comps, List.mem_singleton] at ht
    subst ht
    exact ⟨rfl, hp⟩
  | cons x l ih =>
    intro p t hl hp ht
    rw [comps, List.mem_flatMap] at ht
    obtain ⟨c, hc, ht⟩ := ht
    have hcr : c = -1 ∨ 0 ≤ c ∧ c < (lvs s g).length := by
      unfold chs at hc
      split at hc
      · rw [List.mem_singleton] at hc; exact .inl hc
      · have := hl x List.mem_cons_self c hc; exact .inr ⟨this.1, by omega⟩
    have := ih (p ++ [c]) t (fun y hy => hl y (List.mem_cons_of_mem _ hy)) (fun y hy => by
      rcases List.mem_append.1 hy with hy | hy
      · exact hp y hy
      · rw [List.mem_singleton] at hy; subst hy; exact hcr) ht
    refine ⟨?_, this.2⟩
    rw [this.1]
    simp
    omega
noncomputable def manyOf (s : Int) (g : List Gat) (t : List Int) : Int := allOf (lvs s g).length (matesOf s g) (gathOf (lvs s g)) t
noncomputable def wideOf (s : Int) (g : List Gat) (its : List Item) : Int × Int :=
 match truthsOf its with
 | [] => (0, 0)
 | t :: l => l.foldl (fun x t => (min x.1 (manyOf s g t), max x.2 (manyOf s g t))) (manyOf s g t, manyOf s g t)
end Go.Am
end
section
namespace Go.Am
set_option linter.unusedVariables false
def Doubtful (l : List Item) : Prop := ∃ x ∈ l, 1 < x.could.l.length
theorem openRes_err {s : Int} {g : List Gat} {its : List Item} (h : ¬ (caseErr s g its).2.2 = 0) : openRes s g its = .inl (caseErr s g its) := by unfold openRes; rw [if_neg h]
theorem openRes_ok {s : Int} {g : List Gat} {its : List Item} (h : (caseErr s g its).2.2 = 0) : openRes s g its = .inr (s, GSo true encL (lvs s g), matesOf s g, 0, 0, 0) := by unfold openRes; rw [if_pos h]
end Go.Am
end
section
namespace Go.Am
set_option linter.unusedVariables false
theorem foldx_fold {σ β A : Type} {body : σ → β → Option (Stp σ A)} {f : σ → β → σ} : ∀ (l : List β) (s : σ), (∀ s, ∀ x ∈ l, body s x = some (.ag (f s x))) → foldx body l s = some (.nx (l.foldl f s)) := by
 intro l
 induction l with
 | nil => intro s _; rfl
 | cons a l ih =>
  intro s h;unfold foldx;rw [h s a List.mem_cons_self];exact ih _ fun s x hx => h s x (List.mem_cons_of_mem _ hx)
theorem count_le (g : Int → Int) (t : List Int) : ∀ k, (idxTo isStrange t k).length + (idxTo (isTwice t) t k).length + (runsTo g t k).length ≤ k := by
 intro k
 induction k with
 | zero => simp [idxTo, runsTo]
 | succ k ih =>
  cases h : t[k]? with
  | none =>
   rw [idxTo, idxTo, runsTo, h];simp only [List.append_nil];omega
  | some n =>
   rw [idxTo_succ h, idxTo_succ h, runsTo_succ h]
   by_cases h0 : n < 0
   ·have e1 : isPlain t k n = false := decide_eq_false (by omega)
    have e2 : isStrange k n = true := decide_eq_true h0
    have e3 : isTwice t k n = false := decide_eq_false (by omega);rw [e1, e2, e3];simp;omega
   ·have e2 : isStrange k n = false := decide_eq_false h0
    by_cases hm : n ∈ t.take k
    ·have e1 : isPlain t k n = false := decide_eq_false (fun h => h.2 hm)
     have e3 : isTwice t k n = true := decide_eq_true ⟨by omega, hm⟩;rw [e1, e2, e3];simp;omega
    ·have e1 : isPlain t k n = true := decide_eq_true ⟨by omega, hm⟩
     have e3 : isTwice t k n = false := decide_eq_false (fun h => hm h.2)
     have := rnStep_len (g := g) (l := runsTo g t k) (i := k) (n := n);rw [e1, e2, e3];simp;omega
theorem many_bounds (s : Int) (g : List Gat) (t : List Int) : 0 ≤ manyOf s g t ∧ manyOf s g t ≤ (lvs s g).length + t.length := by
 unfold manyOf allOf
 have h1 := piecesOf_le (matesOf s g) (lostOf (lvs s g).length t)
 have h2 := lostOf_len (lvs s g).length t
 have h3 := count_le (gathOf (lvs s g)) t t.length
 have h4 := movedOf_len (runsOf (gathOf (lvs s g)) t);unfold strangeOf twiceOf
 have h5 : (runsOf (gathOf (lvs s g)) t).length = (runsTo (gathOf (lvs s g)) t t.length).length := rfl;omega
theorem cfaults_ok {s : Int} {g : List Gat} {its : List Item} (h : GoodCase s g its) {its' : List Item} {s' : Int} {t : List Int} (ht : t ∈ truthsOf its) :
  P_c_faults s' g its' (lvs s g) (matesOf s g) t = some ([], lostOf (lvs s g).length t, piecesOf (matesOf s g) (lostOf (lvs s g).length t), strangeOf t, twiceOf t, movedOf (runsOf (gathOf (lvs s g)) t), manyOf s g t) := by
 have ht' := truths_in h t ht
 have := h.il;exact faults_ok h.nl (mates_len s g) (by omega) (fun x hx => by rcases ht'.2 x hx with h | h <;> omega)
theorem truths_pos {its : List Item} (hf : ∀ x ∈ its, x.could.l.length ≤ 4) : ∃ t l, truthsOf its = t :: l := by
 have h1 := (wid_le its hf).1
 have h2 := comps_len its [];cases h : truthsOf its with
 | nil => unfold truthsOf at h; rw [h] at h2; simp at h2; omega
 | cons t l => exact ⟨t, l, rfl⟩
theorem wide_ok {s : Int} {g : List Gat} {its : List Item} (h : GoodCase s g its) {s' : Int} : P_c_wide s' g its (lvs s g) (matesOf s g) = some (wideOf s g its) := by
 refine Ok.get ?_
 have hil := h.il
 have hnl := h.nl;obtain ⟨t, l, htl⟩ := truths_pos h.few;unfold P_c_wide;refine .chk (i64_small (by omega)) (.chk (i64_small (by omega)) (Ok.andx (P := fun x => x = wideOf s g its) (.chk ⟨hil, h.few⟩ ?_) ?_))
 ·have hb : ∀ (x : Int × Int), ∀ t ∈ truthsOf its, P_c_wide_L1 s' g its (lvs s g) (matesOf s g) x t = some (.ag (min x.1 (manyOf s g t), max x.2 (manyOf s g t))) := fun x t ht => by
   unfold P_c_wide_L1;obtain ⟨a, b⟩ := x;simp only;rw [cfaults_ok h ht];rfl
  rw [foldx_fold (f := fun (x : Int × Int) t => (min x.1 (manyOf s g t), max x.2 (manyOf s g t))) _ _ hb];refine .some ?_
  show (_, _) = _;unfold wideOf;rw [htl, List.foldl_cons]
  have h1 := many_bounds s g t
  have h2 := (truths_in h t (by rw [htl]; exact List.mem_cons_self)).1
  have e1 : min (((lvs s g).length : Int) + 2 * (its.length : Int)) (manyOf s g t) = manyOf s g t := by omega
  have e2 : max (0 : Int) (manyOf s g t) = manyOf s g t := by omega
  simp only [e1, e2]
 ·rintro ⟨a, b⟩ hab;exact .some hab
noncomputable def rangeSaid (s : Int) (g : List Gat) (its : List Item) : Int × Int × Int := if (caseErr s g its).2.2 = 0 then ((wideOf s g its).1, (wideOf s g its).2, 0) else (0, 0, (caseErr s g its).2.2)
theorem c_Range_ok {s : Int} {g : List Gat} {its : List Item} : P_c_Range s g its = some (rangeSaid s g its) := by
 unfold P_c_Range rangeSaid;rw [open_ok]
 by_cases e : (caseErr s g its).2.2 = 0
 ·rw [openRes_ok e, if_pos e];simp only [andx]
  have hg : (GSo true encL (lvs s g)).l = lvs s g := rfl;rw [chk_pos trivial, hg, wide_ok (case_good e)]
 ·rw [openRes_err e, if_neg e];simp only [andx];rw [chk_pos e]
end Go.Am
end
section
namespace Go.Am
set_option linter.unusedVariables false
end Go.Am
end
section
namespace Go.Am
set_option linter.unusedVariables false
abbrev okCase (s : Int) (g : List Gat) (its : List Item) : Prop := (caseErr s g its).2.2 = 0
theorem valid_ok {s : Int} {g : List Gat} {its : List Item} : P_l_valid s g its = some (decide (okCase s g its)) := by
 unfold P_l_valid;rw [r4_Check_ok];rfl
end Go.Am
end
section
namespace Go.Am
set_option linter.unusedVariables false
theorem doubts_none : ∀ (l : List Item) (d i : Nat), d + l.countP (fun x => decide (1 < x.could.l.length)) ≤ 3 → doubtsErr d i l = none := by
 intro l
 induction l with
 | nil => intro d i _; rfl
 | cons x l ih =>
  intro d i h;rw [List.countP_cons] at h;unfold doubtsErr
  by_cases hx : 1 < x.could.l.length
  ·simp only [hx, if_true, decide_true] at h ⊢;rw [if_neg (by omega)];exact ih _ _ (by omega)
  ·simp only [hx, if_false, decide_false] at h ⊢;rw [if_neg (by omega)];exact ih _ _ (by simpa using h)
theorem items_none {n : Int} : ∀ (l : List Item) (i : Nat), (∀ x ∈ l, itemErr x.could.l n = 0) → itemsErr n i l = none := by
 intro l
 induction l with
 | nil => intro i _; rfl
 | cons a l ih =>
  intro i h;unfold itemsErr;rw [if_pos (h a List.mem_cons_self)];exact ih _ fun x hx => h x (List.mem_cons_of_mem _ hx)
theorem okCase_iff {s : Int} {g : List Gat} {its : List Item} : okCase s g its ↔ (bookErr (bk s g)).2.2 = 0 ∧ (lvs s g).length ≤ 120 ∧ its.length ≤ 120 ∧ (∀ x ∈ its, itemErr x.could.l ((lvs s g).length : Int) = 0) ∧ its.countP (fun x => decide (1 < x.could.l.length)) ≤ 3 := by
 constructor
 ·intro h
  have hg := case_good h;refine ⟨hg.b0, hg.nl, hg.il, ?_, hg.dbt⟩;unfold okCase caseErr at h
  have h1 : ¬ 120 < (leavesOf (bk s g)).length := by have := hg.nl; unfold lvs at this; omega
  rw [if_pos hg.b0, if_neg h1, if_neg (by have := hg.il; omega)] at h;split at h
  ·rename_i i e he
   exact absurd h (itemsErr_pos _ _ _ _ he)
  ·rename_i he
   exact items_ok _ _ he
 ·rintro ⟨h1, h2, h3, h4, h5⟩;unfold okCase caseErr;rw [if_pos h1, if_neg (by unfold lvs at h2; omega), if_neg (by omega)]
  have e1 : itemsErr ((leavesOf (bk s g)).length : Int) 0 its = none := items_none its 0 h4;rw [e1];simp only;rw [doubts_none its 0 0 (by omega)]
theorem itemErr_of {l : List Int} {n : Int} (h1 : l.length ≤ 4) (h2 : ∀ x ∈ l, 0 ≤ x ∧ x ≤ n - 1) (h3 : ¬ BadOrder l) : itemErr l n = 0 := by
 unfold itemErr;rw [if_neg (by omega), if_neg (fun ⟨x, hx, k⟩ => by have := h2 x hx; omega), if_neg h3]
theorem badOrder_one (x : Int) : ¬ BadOrder [x] := by
 rintro ⟨i, a, b, h1, h2, h3⟩
 have := (List.getElem?_eq_some_iff.1 h2).1;simp at this
theorem badOrder_nil : ¬ BadOrder [] := by
 rintro ⟨i, a, b, h1, h2, h3⟩;cases h1
theorem mem_comps : ∀ (l : List Item) (p t : List Int), t ∈ comps p l ↔ ∃ u, t = p ++ u ∧ u.length = l.length ∧ ∀ (i : Nat) (x : Item), l[i]? = some x → ∃ c ∈ chs x, u[i]? = some c := by
 intro l
 induction l with
 | nil =>
  intro p t;rw [comps, List.mem_singleton]
  constructor
  ·rintro rfl; exact ⟨[], by simp, rfl, fun i x h => by cases h⟩
  ·rintro ⟨u, rfl, hu, _⟩;rw [List.eq_nil_of_length_eq_zero hu, List.append_nil]
 | cons x l ih =>
  intro p t;rw [comps, List.mem_flatMap]
  constructor
  ·rintro ⟨c, hc, ht⟩;obtain ⟨u, rfl, hu, h⟩ := (ih _ _).1 ht;refine ⟨c :: u, by simp, by simp [hu], fun i y hy => ?_⟩;cases i with
   | zero => cases hy; exact ⟨c, hc, rfl⟩
   | succ i => exact h i y hy
  ·rintro ⟨u, rfl, hu, h⟩;cases u with
   | nil => cases hu
   | cons c u =>
    obtain ⟨c', hc', e⟩ := h 0 x rfl;cases e;exact ⟨c, hc', (ih _ _).2 ⟨u, by simp, by simpa using hu, fun i y hy => h (i + 1) y hy⟩⟩
theorem mem_truths {l : List Item} {t : List Int} : t ∈ truthsOf l ↔ t.length = l.length ∧ ∀ (i : Nat) (x : Item), l[i]? = some x → ∃ c ∈ chs x, t[i]? = some c := by
 unfold truthsOf;rw [mem_comps]
 constructor
 ·rintro ⟨u, rfl, h1, h2⟩; exact ⟨h1, h2⟩
 ·rintro ⟨h1, h2⟩; exact ⟨t, rfl, h1, h2⟩
theorem fold_in (f : List Int → Int) : ∀ (l : List (List Int)) (a b : Int), ((l.foldl (fun x t => (min x.1 (f t), max x.2 (f t))) (a, b)).1 = a ∨ ∃ t ∈ l, (l.foldl (fun x t => (min x.1 (f t), max x.2 (f t))) (a, b)).1 = f t) ∧ ((l.foldl (fun x t => (min x.1 (f t), max x.2 (f t))) (a, b)).2 = b ∨ ∃ t ∈ l, (l.foldl (fun x t => (min x.1 (f t), max x.2 (f t))) (a, b)).2 = f t) := by
 intro l
 induction l with
 | nil => intro a b; exact ⟨.inl rfl, .inl rfl⟩
 | cons u l ih =>
  intro a b;rw [List.foldl_cons];obtain ⟨h1, h2⟩ := ih (min a (f u)) (max b (f u))
  constructor
  ·rcases h1 with h1 | ⟨t, ht, h1⟩
   ·by_cases hc : a ≤ f u
    ·exact .inl (h1.trans (by omega))
    ·exact .inr ⟨u, List.mem_cons_self, h1.trans (by omega)⟩
   ·exact .inr ⟨t, List.mem_cons_of_mem _ ht, h1⟩
  ·rcases h2 with h2 | ⟨t, ht, h2⟩
   ·by_cases hc : f u ≤ b
    ·exact .inl (h2.trans (by omega))
    ·exact .inr ⟨u, List.mem_cons_self, h2.trans (by omega)⟩
   ·exact .inr ⟨t, List.mem_cons_of_mem _ ht, h2⟩
theorem wide_at {s : Int} {g : List Gat} {its : List Item} (hf : ∀ x ∈ its, x.could.l.length ≤ 4) : (∃ t ∈ truthsOf its, (wideOf s g its).1 = manyOf s g t) ∧ ∃ t ∈ truthsOf its, (wideOf s g its).2 = manyOf s g t := by
 obtain ⟨u, l, h⟩ := truths_pos hf
 have e : wideOf s g its = l.foldl (fun x t => (min x.1 (manyOf s g t), max x.2 (manyOf s g t))) (manyOf s g u, manyOf s g u) := by unfold wideOf; rw [h]
 rw [e, h];obtain ⟨h1, h2⟩ := fold_in (manyOf s g) l (manyOf s g u) (manyOf s g u)
 constructor
 ·rcases h1 with h1 | ⟨t, ht, h1⟩
  ·exact ⟨u, List.mem_cons_self, h1⟩
  ·exact ⟨t, List.mem_cons_of_mem _ ht, h1⟩
 ·rcases h2 with h2 | ⟨t, ht, h2⟩
  ·exact ⟨u, List.mem_cons_self, h2⟩
  ·exact ⟨t, List.mem_cons_of_mem _ ht, h2⟩
end Go.Am
end
section
namespace Go.Am
set_option linter.unusedVariables false
def strip (r : S_copy_run) : S_copy_run := ⟨0, r.first, r.last⟩
theorem chains_strip : ∀ l : List S_copy_run, chains (l.map strip) = chains l := by
 have hf : ∀ (last : Int) (l : List S_copy_run) (c : List Int) (a : Int), follow last ((l.map strip).zip c) a = follow last (l.zip c) a := by
  intro last l
  induction l with
  | nil => intro c a; rfl
  | cons r l ih =>
   intro c a;cases c with
   | nil => rfl
   | cons x c => rw [List.map_cons, List.zip_cons_cons, List.zip_cons_cons, follow_cons, follow_cons, ih]; rfl
 intro l
 induction l with
 | nil => rfl
 | cons r l ih => rw [List.map_cons, chains, chains, ih, hf]; rfl
theorem moved_strip (l : List S_copy_run) : (movedOf (l.map strip)).length = (movedOf l).length := by
 have hf : ∀ (l : List S_copy_run) (c : List Int) (b last : Int), (movedFrom ((l.map strip).zip c) b last).length = (movedFrom (l.zip c) b last).length := by
  intro l
  induction l with
  | nil => intro c b last; rfl
  | cons r l ih =>
   intro c b last;cases c with
   | nil => rfl
   | cons x c =>
    rw [List.map_cons, List.zip_cons_cons, List.zip_cons_cons, movedFrom, movedFrom]
    show (if x = b ∧ r.first > last then _ else _ : List Int).length = _;split
    ·exact ih _ _ _
    ·rw [List.length_cons, List.length_cons, ih]
 unfold movedOf;rw [chains_strip, hf]
theorem rnStep_strip (g : Int → Int) (l : List S_copy_run) (i n : Int) : (rnStep g l i n).map strip = rnStep g (l.map strip) 0 n := by
 unfold rnStep;rw [List.length_map, List.getElem?_map];cases l[l.length - 1]? with
 | none => simp [strip]
 | some r =>
  simp only [Option.map_some]
  show List.map strip (if r.last < n ∧ g r.last = g n then _ else _) = if r.last < n ∧ g r.last = g n then _ else _;split
  ·rw [List.map_set]; rfl
  ·simp [strip]
structure SeenT where
 met : List Int
 strange : Nat
 twice : Nat
 runs : List S_copy_run
def seeStep (g : Int → Int) (s : SeenT) (n : Int) : SeenT :=
 if n < 0 then ⟨s.met ++ [n], s.strange + 1, s.twice, s.runs⟩
 else if n ∈ s.met then ⟨s.met ++ [n], s.strange, s.twice + 1, s.runs⟩
 else ⟨s.met ++ [n], s.strange, s.twice, rnStep g s.runs 0 n⟩
def see (g : Int → Int) (t : List Int) (s : SeenT) : SeenT := t.foldl (seeStep g) s
def see0 (g : Int → Int) (t : List Int) : SeenT := see g t ⟨[], 0, 0, []⟩
theorem see_append (g : Int → Int) (t u : List Int) (s : SeenT) : see g (t ++ u) s = see g u (see g t s) := List.foldl_append
theorem see_take (g : Int → Int) (t : List Int) : ∀ k, k ≤ t.length → see0 g (t.take k) = ⟨t.take k, (idxTo isStrange t k).length, (idxTo (isTwice t) t k).length, (runsTo g t k).map strip⟩ := by
 intro k
 induction k with
 | zero => intro _; rfl
 | succ k ih =>
  intro hk;obtain ⟨n, hn⟩ : ∃ n, t[k]? = some n := ⟨_, List.getElem?_eq_getElem (by omega)⟩;rw [take_snoc hn, see0, see_append, ← see0, ih (by omega), idxTo_succ hn, idxTo_succ hn, runsTo_succ hn]
  show seeStep g _ n = _;unfold seeStep
  by_cases h0 : n < 0
  ·have e1 : isPlain t k n = false := decide_eq_false (by omega)
   have e2 : isStrange k n = true := decide_eq_true h0
   have e3 : isTwice t k n = false := decide_eq_false (by omega);rw [e1, e2, e3, if_pos h0];simp
  ·have e2 : isStrange k n = false := decide_eq_false h0
   by_cases hm : n ∈ t.take k
   ·have e1 : isPlain t k n = false := decide_eq_false (fun h => h.2 hm)
    have e3 : isTwice t k n = true := decide_eq_true ⟨by omega, hm⟩;rw [e1, e2, e3, if_neg h0, if_pos hm];simp
   ·have e1 : isPlain t k n = true := decide_eq_true ⟨by omega, hm⟩
    have e3 : isTwice t k n = false := decide_eq_false (fun h => hm h.2);rw [e1, e2, e3, if_neg h0, if_neg hm];simp [rnStep_strip]
theorem see_all (g : Int → Int) (t : List Int) : see0 g t = ⟨t, (strangeOf t).length, (twiceOf t).length, (runsOf g t).map strip⟩ := by
 have := see_take g t t.length (Nat.le_refl _);rw [List.take_length] at this;exact this
def seenMany (n : Nat) (mt : List Int) (s : SeenT) : Int := piecesOf mt (lostOf n s.met) + s.strange + s.twice + (movedOf s.runs).length
theorem allOf_see (n : Nat) (mt : List Int) (g : Int → Int) (t : List Int) : allOf n mt g t = seenMany n mt (see0 g t) := by
 rw [see_all];unfold seenMany allOf;simp only [moved_strip]
theorem lostOf_congr {n : Nat} {t u : List Int} (h : ∀ x : Int, 0 ≤ x → (x ∈ t ↔ x ∈ u)) : lostOf n t = lostOf n u := by
 induction n with
 | zero => rfl
 | succ n ih =>
  rw [lostOf_succ, lostOf_succ, ih];simp only [h (n : Int) (by omega)]
theorem see_same (g : Int → Int) : ∀ (d : List Int) (a b : SeenT), (∀ x : Int, 0 ≤ x → (x ∈ a.met ↔ x ∈ b.met)) → a.strange = b.strange + 1 → a.twice = b.twice → a.runs = b.runs →
  (∀ x : Int, 0 ≤ x → (x ∈ (see g d a).met ↔ x ∈ (see g d b).met)) ∧ (see g d a).strange = (see g d b).strange + 1 ∧ (see g d a).twice = (see g d b).twice ∧ (see g d a).runs = (see g d b).runs := by
 intro d
 induction d with
 | nil => intro a b h1 h2 h3 h4; exact ⟨h1, h2, h3, h4⟩
 | cons n d ih =>
  intro a b h1 h2 h3 h4
  have hm : ∀ x : Int, 0 ≤ x → (x ∈ a.met ++ [n] ↔ x ∈ b.met ++ [n]) := fun x hx => by rw [List.mem_append, List.mem_append, h1 x hx]
  show (∀ x : Int, 0 ≤ x → (x ∈ (see g d (seeStep g a n)).met ↔ x ∈ (see g d (seeStep g b n)).met)) ∧ (see g d (seeStep g a n)).strange = (see g d (seeStep g b n)).strange + 1 ∧ (see g d (seeStep g a n)).twice = (see g d (seeStep g b n)).twice ∧ (see g d (seeStep g a n)).runs = (see g d (seeStep g b n)).runs;unfold seeStep
  by_cases h0 : n < 0
  ·rw [if_pos h0, if_pos h0];exact ih _ _ hm (by simp only; omega) h3 h4
  ·rw [if_neg h0, if_neg h0];simp only [h1 n (by omega)];split
   ·exact ih _ _ hm h2 (by simp only; omega) h4
   ·exact ih _ _ hm h2 h3 (by simp only [h4])
theorem many_strange (s : Int) (g : List Gat) (a b : List Int) : manyOf s g (a ++ -1 :: b) = manyOf s g (a ++ b) + 1 := by
  unfold manyOf
  rw [allOf_see, allOf_see, see0, see0, see_append, see_append]
  show seenMany _ _ (see _ b (seeStep _ (see _ a _) (-1))) = _
  generalize see _ a _ = p
  obtain ⟨h1, h2, h3, h4⟩ := see_same (gathOf (lvs s g)) b (seeStep (gathOf (lvs s g)) p (-1)) p (fun x hx => by
    unfold seeStep
    rw [if_pos (by omega)]
    simp only [List.mem_append, List.mem_singleton]
    exact ⟨fun h => h.resolve_right (by omega), .inl⟩) (by unfold seeStep; rw [if_pos (by omega)]) (by unfold seeStep; rw [if_pos (by omega)]) (by unfold seeStep; rw [if_pos (by omega)])
  unfold seenMany
  rw [lostOf_congr h1, h2, h3, h4]
  omega
theorem truths_append {a b : List Item} {t : List Int} : t ∈ truthsOf (a ++ b) ↔ ∃ u v, t = u ++ v ∧ u ∈ truthsOf a ∧ v ∈ truthsOf b := by
 rw [mem_truths]
 constructor
 ·rintro ⟨h1, h2⟩;rw [List.length_append] at h1;refine ⟨t.take a.length, t.drop a.length, (List.take_append_drop _ _).symm, mem_truths.2 ⟨by rw [List.length_take]; omega, fun i x hx => ?_⟩, mem_truths.2 ⟨by rw [List.length_drop]; omega, fun i x hx => ?_⟩⟩
  ·have hi := (List.getElem?_eq_some_iff.1 hx).1;obtain ⟨c, hc, e⟩ := h2 i x (by rw [List.getElem?_append_left hi]; exact hx);exact ⟨c, hc, by rw [List.getElem?_take_of_lt hi]; exact e⟩
  ·obtain ⟨c, hc, e⟩ := h2 (a.length + i) x (by rw [List.getElem?_append_right (by omega)]; simpa using hx);exact ⟨c, hc, by rw [List.getElem?_drop]; exact e⟩
 ·rintro ⟨u, v, rfl, hu, hv⟩;obtain ⟨u1, u2⟩ := mem_truths.1 hu;obtain ⟨v1, v2⟩ := mem_truths.1 hv;refine ⟨by simp [u1, v1], fun i x hx => ?_⟩
  by_cases hi : i < a.length
  ·rw [List.getElem?_append_left hi] at hx;obtain ⟨c, hc, e⟩ := u2 i x hx;exact ⟨c, hc, by rw [List.getElem?_append_left (by omega)]; exact e⟩
  ·rw [List.getElem?_append_right (by omega)] at hx;obtain ⟨c, hc, e⟩ := v2 _ x hx;exact ⟨c, hc, by rw [List.getElem?_append_right (by omega), u1]; exact e⟩
theorem truths_one {y : Item} {t : List Int} : t ∈ truthsOf [y] ↔ ∃ c ∈ chs y, t = [c] := by
 rw [mem_truths]
 constructor
 ·rintro ⟨h1, h2⟩;obtain ⟨c, hc, e⟩ := h2 0 y rfl;refine ⟨c, hc, ?_⟩
  match t, h1, e with
  | [d], _, e => cases e; rfl
 ·rintro ⟨c, hc, rfl⟩;refine ⟨rfl, fun i x hx => ?_⟩;cases i with
  | zero => cases hx; exact ⟨c, hc, rfl⟩
  | succ i => cases hx
theorem okCase_more {s : Int} {g : List Gat} {its : List Item} (h : okCase s g its) (hn : its.length ≠ 120) {k : Nat} {y : Item} (hy : itemErr y.could.l ((lvs s g).length : Int) = 0) (hd : y.could.l.length ≤ 1) : okCase s g (its.take k ++ [y] ++ its.drop k) := by
 obtain ⟨h1, h2, h3, h4, h5⟩ := okCase_iff.1 h;refine okCase_iff.2 ⟨h1, h2, ?_, ?_, ?_⟩
 ·simp only [List.length_append, List.length_take, List.length_drop, List.length_singleton]; omega
 ·intro x hx
  rcases List.mem_append.1 hx with hx | hx
  ·rcases List.mem_append.1 hx with hx | hx
   ·exact h4 x (List.mem_of_mem_take hx)
   ·rw [List.mem_singleton] at hx; subst hx; exact hy
  ·exact h4 x (List.mem_of_mem_drop hx)
 ·have e1 : its.countP (fun x => decide (1 < x.could.l.length)) = (its.take k).countP (fun x => decide (1 < x.could.l.length)) + (its.drop k).countP (fun x => decide (1 < x.could.l.length)) := by
   rw [← List.countP_append, List.take_append_drop]
  rw [List.countP_append, List.countP_append, List.countP_singleton, if_neg (by simp; omega)];omega
theorem with_ok {l : List Item} {k : Nat} {at_ : Int} {x : Item} (hl : l.length ≤ 1000) (h : Int.tmod at_ ((l.length : Int) + 1) = k) (hk : k ≤ l.length) : P_l_with l at_ x = some (l.take k ++ [x] ++ l.drop k) := by
 refine Ok.get ?_;unfold P_l_with
 rw [h]
 have e0 : ((k : Int) - 0).toNat = k := by omega
 have e1 : (0 : Int).toNat = 0 := rfl
 have e2 : (k : Int).toNat = k := by omega
 have e3 : ((l.length : Int) - (k : Int)).toNat = l.length - k := by omega
 rw [e0, e1, e2, e3, List.drop_zero, List.nil_append];refine .chk (i64_small (by omega)) (.chk (by omega) (.chk (by omega) (.chk (by omega) (.chk (by simp only [List.length_nil, List.length_take]; omega) (.chk (by simp only [List.length_singleton, List.length_take]; omega) (.chk (by simp only [List.length_append, List.length_singleton, List.length_take, List.length_drop]; omega) (.some ?_)))))));rw [List.take_of_length_le (l := l.drop k) (by rw [List.length_drop]; omega)]
end Go.Am
end
section
namespace Go.Am
set_option linter.unusedVariables false
def isMate (lv : Int) (x : Leaf) (n i : Nat) (y : Leaf) : Prop := i ≠ n ∧ y.g = x.g ∧ y.kind = 0 ∧ y.num + x.num = lv + 1
theorem pairFrom_spec {lv : Int} {x : Leaf} {n : Nat} : ∀ (l : List Leaf) (i : Nat),
  (pairFrom lv x n i l = -1 ∧ ∀ k y, l[k]? = some y → ¬ isMate lv x n (i + k) y) ∨ ∃ k y, pairFrom lv x n i l = ((i + k : Nat) : Int) ∧ l[k]? = some y ∧ isMate lv x n (i + k) y := by
 intro l
 induction l with
 | nil => intro i; exact .inl ⟨rfl, fun k y h => by cases h⟩
 | cons y l ih =>
  intro i;unfold pairFrom
  by_cases hc : i ≠ n ∧ y.g = x.g ∧ y.kind = 0 ∧ y.num + x.num = lv + 1
  ·rw [if_pos hc];exact .inr ⟨0, y, rfl, rfl, hc⟩
  ·rw [if_neg hc]
   rcases ih (i + 1) with ⟨h1, h2⟩ | ⟨k, z, h1, h2, h3⟩
   ·refine .inl ⟨h1, fun k z hz => ?_⟩;cases k with
    | zero => cases hz; exact hc
    | succ k =>
     have := h2 k z hz;rw [show i + 1 + k = i + (k + 1) by omega] at this;exact this
   ·exact .inr ⟨k + 1, z, by rw [h1]; congr 1; omega, h2, by rw [show i + (k + 1) = i + 1 + k by omega]; exact h3⟩
theorem pair_at {b : Book} {n : Nat} {x : Leaf} (hx : (leavesOf b)[n]? = some x) (hm : pairNo b n ≠ -1) :
  ∃ (m : Nat) (y : Leaf) (g : Gat), pairNo b n = m ∧ (leavesOf b)[m]? = some y ∧ b.gs.l[x.g.toNat]? = some g ∧ x.kind = 0 ∧ isMate g.leaves x n m y := by
 obtain ⟨g, hg, _⟩ := mem_leaves (List.mem_of_getElem? hx);unfold pairNo at hm ⊢;rw [hx] at hm ⊢;simp only [hg] at hm ⊢
 by_cases hk : x.kind ≠ 0
 ·rw [if_pos hk] at hm; exact absurd rfl hm
 ·rw [if_neg hk] at hm ⊢
  rcases pairFrom_spec (lv := g.leaves) (x := x) (n := n) (leavesOf b) 0 with ⟨h, _⟩ | ⟨k, y, h1, h2, h3⟩
  ·exact absurd h hm
  ·rw [Nat.zero_add] at h1 h3;exact ⟨k, y, g, h1, h2, rfl, Classical.not_not.1 hk, h3⟩
theorem pair_sym {b : Book} {n : Nat} (h : 0 ≤ pairNo b n) : ∃ m : Nat, pairNo b n = m ∧ m < (leavesOf b).length ∧ m ≠ n ∧ pairNo b m = n := by
 have hne : pairNo b n ≠ -1 := by omega
 cases hx : (leavesOf b)[n]? with
 | none => unfold pairNo at hne; rw [hx] at hne; exact absurd rfl hne
 | some x =>
  obtain ⟨m, y, g, e, hy, hg, hk, hc⟩ := pair_at hx hne
  have hml := (List.getElem?_eq_some_iff.1 hy).1;obtain ⟨c1, c2, c3, c4⟩ := hc;refine ⟨m, e, hml, c1, ?_⟩
  have hback : isMate g.leaves y m n x := ⟨fun k => c1 k.symm, c2.symm, hk, by omega⟩
  have hgy : b.gs.l[y.g.toNat]? = some g := by rw [c2]; exact hg
  unfold pairNo;rw [hy];simp only [hgy];rw [if_neg (Classical.not_not.2 c3)]
  rcases pairFrom_spec (lv := g.leaves) (x := y) (n := m) (leavesOf b) 0 with ⟨h1, h2⟩ | ⟨k, z, h1, h2, h3⟩
  ·exact absurd (by rw [Nat.zero_add]; exact hback) (h2 n x hx)
  ·rw [Nat.zero_add] at h1 h3;obtain ⟨d1, d2, d3, d4⟩ := h3
   have px := leaf_plus (List.mem_of_getElem? hx) hk
   have pz := leaf_plus (List.mem_of_getElem? h2) d3
   have ezx : z = x := leaf_ext.1 ⟨by omega, by omega, by omega, by omega⟩
   have hkl := (List.getElem?_eq_some_iff.1 h2).1
   have hnl := (List.getElem?_eq_some_iff.1 hx).1
   have : k = n := by
    have hnd := leaves_nodup b
    have e1 := (List.getElem?_eq_some_iff.1 h2).2
    have e2 := (List.getElem?_eq_some_iff.1 hx).2;exact (List.getElem_inj hnd).1 (by rw [e1, e2, ezx])
   rw [h1, this]
theorem mates_at {s : Int} {g : List Gat} {n : Nat} (h : n < (lvs s g).length) : (matesOf s g)[n]? = some (pairNo (bk s g) n) := by
 unfold matesOf matesTo;rw [List.getElem?_map, List.getElem?_range h];rfl
theorem pair_ok {s : Int} {g : List Gat} {n : Nat} (h : GoodBook s g) (hn : n < (lvs s g).length) : P_r1_Pair s g n = some (pairNo (bk s g) n) := by
 unfold P_r1_Pair;rw [chk_pos ⟨book_fits h.b0, by omega, by unfold lvs at hn; simpa using hn⟩, Int.toNat_natCast]
def Common (t u : List Int) (k n : Nat) : Prop := ∃ j, k ≤ j ∧ j < n ∧ (j : Int) ∈ t ∧ (j : Int) ∈ u
def tr1 (l : List Item) : List Int := (truthsOf l).headD []
def DivOk (s : Int) (g : List Gat) (one other : List Item) : Prop := okCase s g one ∧ okCase s g other ∧ ¬ Doubtful one ∧ ¬ Doubtful other ∧ ¬ Common (tr1 one) (tr1 other) 0 (lvs s g).length
theorem DivOk.swap {s : Int} {g : List Gat} {one other : List Item} (h : DivOk s g one other) : DivOk s g other one := by
 obtain ⟨h1, h2, h3, h4, h5⟩ := h;exact ⟨h2, h1, h4, h3, fun ⟨j, a, b, c, d⟩ => h5 ⟨j, a, b, d, c⟩⟩
def itemOf (x : Int) : Item := ⟨GSo true encI [x]⟩
theorem truths_items : ∀ l : List Int, truthsOf (l.map itemOf) = [l] := by
 have : ∀ (l p : List Int), comps p (l.map itemOf) = [p ++ l] := by
  intro l
  induction l with
  | nil => intro p; simp [comps]
  | cons x l ih =>
   intro p;rw [List.map_cons, comps]
   have e : chs (itemOf x) = [x] := rfl;rw [e];simp [ih]
 intro l
 have := this l [];rw [List.nil_append] at this;exact this
theorem okCase_items {s : Int} {g : List Gat} (h : GoodBook s g) {l : List Int} (hl : l.length ≤ 120) (hr : ∀ x ∈ l, 0 ≤ x ∧ x < (lvs s g).length) : okCase s g (l.map itemOf) := by
 refine okCase_iff.2 ⟨h.b0, h.nl, by rw [List.length_map]; exact hl, fun x hx => ?_, ?_⟩
 ·obtain ⟨y, hy, rfl⟩ := List.mem_map.1 hx
  have := hr y hy;refine itemErr_of (by show [y].length ≤ 4; simp) (fun z hz => ?_) (badOrder_one y)
  have hz : z ∈ [y] := hz;rw [List.mem_singleton] at hz;subst hz;omega
 ·rw [List.countP_eq_zero.2]
  ·omega
  ·intro x hx;obtain ⟨y, hy, rfl⟩ := List.mem_map.1 hx
   have : ¬ 1 < (itemOf y).could.l.length := fun h => by have h : 1 < [y].length := h; simp at h
   rw [decide_eq_true_eq]; exact this
theorem okCase_nil {s : Int} {g : List Gat} : okCase s g [] ↔ GoodBook s g :=
 ⟨fun h => (case_good h).book, fun h => by have := okCase_items h (l := []) (by simp) (by simp); exact this⟩
open Classical in
theorem whole_ok {s : Int} {g : List Gat} : P_l_whole s g = some (decide (GoodBook s g)) := by
 unfold P_l_whole;rw [valid_ok];simp only [andx, okCase_nil]
def rng (n : Nat) : List Int := (List.range n).map fun i : Nat => (i : Int)
theorem rng_succ (n : Nat) : rng (n + 1) = rng n ++ [(n : Int)] := by simp [rng, List.range_succ]
theorem rng_len (n : Nat) : (rng n).length = n := by simp [rng]
theorem mem_rng {n : Nat} {x : Int} : x ∈ rng n ↔ 0 ≤ x ∧ x < n := by
 unfold rng;rw [List.mem_map]
 constructor
 ·rintro ⟨i, hi, rfl⟩; have := List.mem_range.1 hi; omega
 ·rintro ⟨h1, h2⟩; exact ⟨x.toNat, List.mem_range.2 (by omega), by omega⟩
theorem rng_get {n k : Nat} (h : k < n) : (rng n)[k]? = some (k : Int) := by
 unfold rng; rw [List.getElem?_map, List.getElem?_range h]; rfl
theorem full_ok {s : Int} {g : List Gat} (h : GoodBook s g) : P_l_full s g = some ((rng (lvs s g).length).map fun x => [x]) := by
 refine Ok.get ?_
 have hnl := h.nl;unfold P_l_full;refine .andx' (All1_ok h) (Ok.andx (P := fun x => x = (rng (lvs s g).length).map fun x => [x]) (Ok.count (fun s => s.1) (lvs s g).length (fun k (x : Int × List (List Int)) => x.2 = (rng k).map fun x => [x]) rfl rfl ?_ ?_) fun _ h => .some h)
 ·rintro k ⟨i, out⟩ hk hx hq;simp only at hx hq;subst hx hq;unfold P_l_full_L1;refine .ifp (by omega) (.chk (by rw [List.length_map, rng_len]; simp; omega) (.chk (i64_small (by omega)) (.some ⟨rfl, ?_⟩)))
  show _ = _;rw [rng_succ];simp
 ·rintro ⟨i, out⟩ hx hq;simp only at hx hq;unfold P_l_full_L1;exact .ifn (by omega) (.some hq)
end Go.Am
end
