/- Part 4. -/
import Derived.Test.YthckcbfijdambaaGreatCopyFaultsP3
import Derived.Test.YthckcbfijdambaaGreatCopyFaultsP2
section
namespace Go.Am.YthckcbfijdambaaGreat
open Go.Am Go.RowKit
set_option linter.unusedVariables false
set_option linter.unusedSimpArgs false
theorem tr_yields {k : Nat} {D : List Thing} {bx xid : Nat} {sg : Int} {gsv itv lv mv : AV} {its : List Item} (hb : Thing.row bx 1 [.ptr xid 0 5] ∈ D) (hx : Thing.row xid 5 [iv sg, gsv, itv, lv, mv] ∈ D) (hi : Rdl D encIt itv its)
  (hk : its.length ≤ 120 ∧ ∀ x ∈ its, x.could.l.length ≤ 4) : Yields (EL k) 74 [] [.ptr bx 0 1] ArgT D (truthsOf its) := by
 intro l YY ZZ hv C hY;obtain ⟨D', hD⟩ := two_perm hb hx (by intro e; cases e)
 have hi' : Rdl D' encIt itv its := hi.perm2 hD (fun z e => by cases e) (fun z e => by cases e)
 have pm : ∀ C : List Thing, ([Thing.row bx 1 [.ptr xid 0 5], Thing.row xid 5 [iv sg, gsv, itv, lv, mv]] ++ (D' ++ C)).Perm (D ++ C) := fun C => List.Perm.append_right C hD.symm
 refine TF.perm (TF.conv (tr_iter (Y := YY) (Z := ZZ) hk.1 hi' hk.2 ?_ C hY) ?_) (pm C)
 ·intro bt by_ bi vt vis tr C hp hl hY
  have key : ∀ C : List Thing, (C ++ ([ownL false vt encI tr] ++ (D ++ [Thing.row bt 1 [vt], Thing.row by_ 1 [.yield l], Thing.row bi 1 [.func 75 [] [.ptr bt 0 1, .ptr by_ 0 1, .ptr bx 0 1, .ptr bi 0 1]]]))).Perm
    ([Thing.row bt 1 [vt], Thing.row by_ 1 [.yield l], Thing.row bx 1 [.ptr xid 0 5], Thing.row bi 1 [.func 75 [] [.ptr bt 0 1, .ptr by_ 0 1, .ptr bx 0 1, .ptr bi 0 1]], Thing.row xid 5 [iv sg, gsv, itv, lv, mv], ownL false vt encI tr] ++ D' ++ C) := fun C =>
   List.perm_append_comm.trans (List.Perm.append_right C ((List.Perm.append_left _ (List.Perm.append_right _ hD)).trans (perm_six _ _ _ _ _ _ _)))
  refine (hv vis tr [vt] [ownL false vt encI tr] C _ hp ⟨vt, rfl, rfl⟩ hY).conv (key C) ?_;rintro v h1 (⟨rfl, C', rfl, h⟩ | ⟨rfl, C', rfl, h⟩)
  ·exact ⟨_, key C', .inl ⟨rfl, C', rfl, h⟩⟩
  ·exact ⟨_, key C', .inr ⟨rfl, C', rfl, h⟩⟩
 ·rintro v h1 ⟨C', rfl, h⟩;exact ⟨_, pm C', C', rfl, h⟩
set_option maxRecDepth 10000 in
theorem tf_r4_in {k : Nat} (hk : 0 ≤ k) {C : List Thing} {n : Int} {low : Int} {high : Int} {r : Bool} (h : P_r4_in n low high = some r) :
  TF (EL k) 78 [iv (n), iv (low), iv (high)] C (RepF (fun (w : Unit) => bv r) (fun (w : Unit) => C)) := by
 unfold P_r4_in at h;refine TF.enter (fn := Go.Proofs.Tryz.f78) rfl rfl rfl rfl rfl (zU rfl (zA R4 (zN ?_)))
 show T _ _ _ _ _ _;apply T.joinA (r := r) (W := Unit) (fun j w => ⟨[], [(6, bv j)], C⟩) h
 ·intro j h;refine zT rfl (zM R4 (zM R4 ?_));obtain ⟨c9, hc9⟩ := zY (n ≥ low);refine zV R3 (Val.geq hc9 rfl rfl) (zM R4 ?_);obtain ⟨rfl, hc9, h⟩ | ⟨rfl, hc9, h⟩ := zI hc9 h
  ·refine zM R4 (zM R4 ?_);obtain ⟨c13, hc13⟩ := zY (n ≤ high);refine zV R3 (Val.leq hc13 rfl rfl) (zP R6 (zA R4 (zN ?_)));subst hc13;cases h;exact ⟨rfl, (), (sb .refl)⟩
  refine zO R3 (zO R3 (zO R3 (zP R6 (zA R4 (zN ?_)))));cases h;exact ⟨rfl, (), (sb .refl)⟩
 ·rintro x6 _ h;refine zR ?_;cases h;exact ⟨rfl, _, rfl, ⟨(), rfl, .refl⟩⟩
set_option maxRecDepth 10000 in
theorem tf_r4_item {k : Nat} (hk : 0 ≤ k) {C : List Thing} {v_x_Could : AV} {x_Could : List Int} {leaves : Int} (h_x_Could : Rdl C encI v_x_Could x_Could) {r : Int} (h : P_r4_item x_Could leaves = some r) :
  TF (EL k) 57 [.agg [v_x_Could], iv (leaves)] C (RepF (fun (w : Unit) => iv r) (fun (w : Unit) => C)) := by
 unfold P_r4_item at h;refine TF.enter (fn := Go.Proofs.Tryz.f57) rfl rfl rfl rfl rfl (zU rfl (zQ 1 [_] R7 (fun b2=>zA R4 (zN (zS (zU rfl (zF 0 R6 (zL 0 R3 R6 (zV R3 (Val.len_l h_x_Could M1 rfl rfl) ?_)))))))));obtain ⟨c10, hc10⟩ := zY ((x_Could.length : Int) > 4);refine zV R3 (Val.gtr hc10 rfl rfl) (zN ?_);obtain ⟨rfl, hc10, h⟩ | ⟨rfl, hc10, h⟩ := zI hc10 h
 ·refine zC rfl (zU rfl (zA R4 (zN (zR ?_))));cases h;exact ⟨rfl, _, rfl, ⟨(), rfl, (pk [98] rfl)⟩⟩
 refine zD rfl (zK ?_)
 show T _ _ _ _ _ _;apply T.join (r := r) (W := Unit) (fun j w => ⟨[], [(2, .ptr b2 0 1)], .row b2 1 [v_x_Could] :: C⟩) h
 ·intro j h;refine zU rfl (zA R4 (zN (zB ?_)))
  show T _ _ _ _ _ _;apply T.iter (r := j) (W := Unit) (fun j w => ⟨[], [(1, iv (leaves)), (2, .ptr b2 0 1), (5, iv (j))], .row b2 1 [v_x_Could] :: C⟩) (w0 := ()) h
  ·exact (sb .refl)
  rintro i _ a h;unfold P_r4_item_L1 at h;refine zS (zU rfl (zM R4 (zF 0 R6 (zL 0 R3 R6 (zV R3 (Val.len_l h_x_Could M1 rfl rfl) ?_)))));obtain ⟨c15, hc15⟩ := zY (i < (x_Could.length : Int));refine zV R3 (Val.lss hc15 rfl rfl) (zN ?_);obtain ⟨rfl, hc15, h⟩ | ⟨rfl, hc15, h⟩ := zI hc15 h
  ·refine zC rfl (zK (zS (zB (zU rfl (zF 0 R6 (zL 0 R3 R6 (zM R4 ?_)))))));obtain ⟨a21, hia21, ea21, h⟩ := el_some h;refine TO.fact (rdl_at h_x_Could M1 hia21 ea21) (fun hp=>?_);obtain ⟨pa21, hpa21, hva21⟩ := hp;refine zV R3 (hva21 ⟨rfl, rfl⟩ rfl rfl) (zV R3 (Val.load_e hpa21 M1 ⟨_, rfl, rfl⟩ rfl rfl) (zM R4 ?_));obtain ⟨hk24, h⟩ := chk_some h;refine zV R3 (Val.sub rfl rfl hk24) ?_;obtain ⟨y25, hr25, h⟩ := andx_some h;refine TO.callT (first := []) (cap := []) (vs := [iv (a21), iv (0), iv ((leaves - 1))]) rfl rfl rfl rfl rfl rfl (orcN rfl) (tf_r4_in aD hr25) ?_;rintro _;refine zG (_::C) rfl (zV R3 (Val.not rfl) (zN ?_));obtain ⟨rfl, h⟩ | ⟨rfl, h⟩ := zZ h
   ·refine zD rfl (zK (zT rfl (zM R4 ?_)));obtain ⟨hk17, h⟩ := chk_some h;refine zV R3 (Val.add rfl rfl hk17) (zA R4 (zN ?_));cases h;exact ⟨rfl, (), (sb .refl)⟩
   refine zC rfl (zU rfl (zA R4 (zN (zR ?_))));cases h;exact ⟨ret_ne, ⟨ret_ne, ⟨rfl, _, rfl, ⟨(), rfl, (pk [98] rfl)⟩⟩⟩⟩
  refine zD rfl (zE ?_);cases h;exact ⟨ex_ne, ⟨rfl, (), (sb .refl)⟩⟩
 ·rintro _ _ h
  show T _ _ _ _ _ _;apply T.join (r := r) (W := Unit) (fun j w => ⟨[], [], .row b2 1 [v_x_Could] :: C⟩) h
  ·intro j h;refine zU rfl (zA R4 (zN (zB ?_)))
   show T _ _ _ _ _ _;apply T.iter (r := j) (W := Unit) (fun j w => ⟨[], [(2, .ptr b2 0 1), (6, iv (j))], .row b2 1 [v_x_Could] :: C⟩) (w0 := ()) h
   ·exact (sb .refl)
   rintro i _ a h;unfold P_r4_item_L2 at h;refine zS (zU rfl (zM R4 (zF 0 R6 (zL 0 R3 R6 (zV R3 (Val.len_l h_x_Could M1 rfl rfl) ?_)))));obtain ⟨c31, hc31⟩ := zY (i < (x_Could.length : Int));refine zV R3 (Val.lss hc31 rfl rfl) (zN ?_);obtain ⟨rfl, hc31, h⟩ | ⟨rfl, hc31, h⟩ := zI hc31 h
   ·refine zC rfl (zK (zS (zB (zS (T.draw (fun v => sameC_refl v) (l1 := [0, 1, 2, 3, 4, 5, 6, 7, 8, 9, 10, 11]) (l2 := []) (by kernel_rfl) (by kernel_rfl) (zF 0 R6 (zL 0 R3 R6 (zM R4 ?_))))))));obtain ⟨a37, hia37, ea37, h⟩ := el_some h;refine TO.fact (rdl_at h_x_Could M1 hia37 ea37) (fun hp=>?_);obtain ⟨pa37, hpa37, hva37⟩ := hp;refine zV R3 (hva37 ⟨rfl, rfl⟩ rfl rfl) (zV R3 (Val.load_e hpa37 M1 ⟨_, rfl, rfl⟩ rfl rfl) (zF 0 R6 (zL 0 R3 R6 (zM R4 ?_))));obtain ⟨hk42, h⟩ := chk_some h;refine zV R3 (Val.sub rfl rfl hk42) ?_;obtain ⟨a43, hia43, ea43, h⟩ := el_some h;refine TO.fact (rdl_at h_x_Could M1 hia43 ea43) (fun hp=>?_);obtain ⟨pa43, hpa43, hva43⟩ := hp;refine zV R3 (hva43 ⟨rfl, rfl⟩ rfl rfl) (zV R3 (Val.load_e hpa43 M1 ⟨_, rfl, rfl⟩ rfl rfl) ?_);obtain ⟨c45, hc45⟩ := zY (a37 ≤ a43);refine zV R3 (Val.leq hc45 rfl rfl) (zN ?_);obtain ⟨rfl, hc45, h⟩ | ⟨rfl, hc45, h⟩ := zI hc45 h
    ·refine zC rfl (zU rfl (zA R4 (zN (zR ?_))));cases h;exact ⟨ret_ne, ⟨ret_ne, ⟨rfl, _, rfl, ⟨(), rfl, (pk [98] rfl)⟩⟩⟩⟩
    refine zD rfl (zK (zT rfl (zM R4 ?_)));obtain ⟨hk33, h⟩ := chk_some h;refine zV R3 (Val.add rfl rfl hk33) (zA R4 (zN ?_));cases h;exact ⟨rfl, (), (sb .refl)⟩
   refine zD rfl (zE ?_);cases h;exact ⟨ex_ne, ⟨rfl, (), (sb .refl)⟩⟩
  ·rintro _ _ h;refine zU rfl (zA R4 (zN (zR ?_)));cases h;exact ⟨rfl, _, rfl, ⟨(), rfl, (pk [98] rfl)⟩⟩
set_option maxRecDepth 10000 in
theorem tf_r4_Plain {k : Nat} (hk : 1 ≤ k) {C : List Thing} {v_truth : AV} {truth : List Int} (ht_truth : RdT encI v_truth truth) {r : (List Int)} (h : P_r4_Plain truth = some r) :
  TF (EL k) 52 [v_truth] C (RepF (fun (w : AV) => w) (fun (w : AV) => ownL true w encI r :: C)) := by
 unfold P_r4_Plain at h
 have h_truth : Rdl C encI v_truth truth := RdT.rdl ht_truth;refine TF.enter (fn := Go.Proofs.Tryz.f52) rfl rfl rfl rfl rfl (zU rfl (zA R4 (zN (zU rfl (zA R4 (zN ?_))))))
 show T _ _ _ _ _ _;apply T.joinA (r := r) (W := AV) (fun j w => ⟨[], [(3, w)], ownL true w encI j :: C⟩) h
 ·intro j h;refine zU rfl (zA R4 (zN (zB (T.nilown (u := encI.u) ?_))))
  show T _ _ _ _ _ _;apply T.iter (r := j) (W := AV) (fun j w => ⟨[], [(0, v_truth), (3, w), (4, iv (j.1))], ownL true w encI j.2 :: C⟩) (w0 := nilS) h
  ·exact (sb .refl)
  rintro ⟨i, out⟩ v1 a h;unfold P_r4_Plain_L1 at h;dsimp only at h;dsimp only;refine zS (zU rfl (zM R4 (zM R4 (zV R3 (Val.len_l h_truth M1 rfl rfl) ?_))));obtain ⟨c8, hc8⟩ := zY (i < (truth.length : Int));refine zV R3 (Val.lss hc8 rfl rfl) (zN ?_);obtain ⟨rfl, hc8, h⟩ | ⟨rfl, hc8, h⟩ := zI hc8 h
  ·refine zC rfl (zK ?_)
   show T _ _ _ _ _ _;apply T.joinA (r := a) (W := AV) (fun j w => ⟨[], [(0, v_truth), (3, w), (4, iv (i))], ownL true w encI j :: C⟩) h
   ·intro j h;refine zB ?_
    show T _ _ _ _ _ _;apply T.joinA (r := j) (W := Unit) (fun j w => ⟨[], [(0, v_truth), (3, v1), (4, iv (i)), (26, bv j)], ownL true v1 encI out :: C⟩) h
    ·intro j h;refine T.draw (fun v => sameC_refl v) (l1 := [0, 1, 2, 3, 4, 5, 6, 7, 8, 9, 10, 11, 12]) (l2 := [13, 14, 15]) (by kernel_rfl) (by kernel_rfl) (zM R4 (zM R4 ?_));obtain ⟨a13, hia13, ea13, h⟩ := el_some h;refine TO.fact (rdl_at h_truth M1 hia13 ea13) (fun hp=>?_);obtain ⟨pa13, hpa13, hva13⟩ := hp;refine zV R3 (hva13 ⟨rfl, rfl⟩ rfl rfl) (zV R3 (Val.load_e hpa13 M1 ⟨_, rfl, rfl⟩ rfl rfl) ?_);obtain ⟨c15, hc15⟩ := zY (a13 ≥ 0);refine zV R3 (Val.geq hc15 rfl rfl) (zM R4 ?_);obtain ⟨rfl, hc15, h⟩ | ⟨rfl, hc15, h⟩ := zI hc15 h
     ·refine zM R4 (zM R4 ?_);obtain ⟨hk19, h⟩ := chk_some h;obtain ⟨w19, htw19, hgw19, hvw19⟩ := slice_T ht_truth hk19
      have hw19 : Rdl C encI w19 (List.take (i - (0 : Int)).toNat (List.drop ((0 : Int) : Int).toNat truth)) := RdT.rdl htw19;refine zV R3 (hvw19 ⟨rfl, rfl⟩ rfl .no (.some rfl)) (zM R4 (zM R4 ?_));obtain ⟨a22, hia22, ea22, h⟩ := el_some h;refine TO.fact (rdl_at h_truth M1 hia22 ea22) (fun hp=>?_);obtain ⟨pa22, hpa22, hva22⟩ := hp;refine zV R3 (hva22 ⟨rfl, rfl⟩ rfl rfl) (zV R3 (Val.load_e hpa22 M1 ⟨_, rfl, rfl⟩ rfl rfl) ?_);obtain ⟨has24, hr24, h⟩ := andx_some h;obtain ⟨g, hgg, hrg⟩ := Rdl.reif (hs := ownL true v1 encI out :: C) hw19 M1 (ReifL.flat encI_tr);refine TO.call rfl rfl rfl rfl rfl (orcL rfl aD) (.cons (hrg _) (.cons .lit .nil)) (sem_of (w_r1_Has g a22 _ (by try rw [hgg]; exact hr24))) (zV R3 (Val.not rfl) (zP R6 (zN ?_)));cases h;exact ⟨rfl, (), (sb .refl)⟩
     refine zO R3 (zO R3 (zO R3 (zO R3 (zO R3 (zO R3 (zO R3 (zO R3 (zO R3 (zP R6 (zN ?_))))))))));cases h;exact ⟨rfl, (), (sb .refl)⟩
    ·rintro x26 _ h;obtain ⟨rfl, h⟩ | ⟨rfl, h⟩ := zZ h
     ·refine zC rfl (zT rfl (zM R4 (zM R4 (TO.build1 (en := encI) (a := i) rfl rfl rfl ⟨rfl, rfl⟩ ⟨_, rfl, rfl⟩ (by decide) (by decide) rfl rfl (fun v29=>?_)))));obtain ⟨hk30, h⟩ := chk_some h;refine TO.eff rfl rfl rfl (Eff.append_own (b := 8) (en := encI) (l := out) (l2 := [i]) (p := 1) (q := 0) ⟨rfl, rfl, rfl, ⟨_, rfl, rfl⟩, by decide, by decide⟩ rfl rfl rfl rfl rfl rfl (flat_ones _) (by decide) hk30) ?_;rintro v30 _ rfl;refine zG (_::_::C) rfl (zA R4 (zN ?_));cases h;exact ⟨rfl, v30, (sb (pk [1,98] rfl))⟩
     refine zD rfl (zK ?_);cases h;exact ⟨rfl, v1, (sb .refl)⟩
   ·rintro out_2 v1_2 h;refine zT rfl (zM R4 ?_);obtain ⟨hk10, h⟩ := chk_some h;refine zV R3 (Val.add rfl rfl hk10) (zA R4 (zN ?_));cases h;exact ⟨rfl, v1_2, (sb .refl)⟩
  refine zD rfl (zE ?_);cases h;exact ⟨ex_ne, ⟨rfl, v1, (sb .refl)⟩⟩
 ·rintro out v1 h;refine zU rfl (zM R4 (zA R4 (zN (zR ?_))));cases h;exact ⟨rfl, _, rfl, ⟨v1, rfl, .refl⟩⟩
theorem w_r4_Plain (truth : GS encI) (r : (List Int)) (h : P_r4_Plain truth.l = some r) : Comes (EL 1) 52 [truth.v] ((GSo true encI r).v) :=
 TF.run (tf_r4_Plain (Nat.le_refl _) (RdT.gs truth) h) fun w => (.ownL (en := encI) (p := 0) rfl (.lits encI_lits))
set_option maxRecDepth 10000 in
theorem tf_r4_Gone {k : Nat} (hk : 2 ≤ k) {C : List Thing} {b_Signed : Int} {v_b_Gatherings : AV} {b_Gatherings : List Gat} {v_truth : AV} {truth : List Int} (h_b_Gatherings : Rdl C encG v_b_Gatherings b_Gatherings) (h_truth : Rdl C encI v_truth truth) {r : (List Int)} (h : P_r4_Gone b_Signed b_Gatherings truth = some r) :
  TF (EL k) 18 [.agg [iv (b_Signed), v_b_Gatherings], v_truth] C (RepF (fun (w : AV) => w) (fun (w : AV) => ownL true w encI r :: C)) := by
 unfold P_r4_Gone at h;refine TF.enter (fn := Go.Proofs.Tryz.f18) rfl rfl rfl rfl rfl (zU rfl (zQ 2 [_,_] R7 (fun b2=>zA R4 (zN (zU rfl (zA R4 (zN (zU rfl (zV R3 (vW 0 [_,_] R5 R4) ?_)))))))));obtain ⟨all9, hr9, h⟩ := andx_some h;obtain ⟨g, hgg, hrg⟩ := Rdl.reif (hs := .row b2 2 [iv (b_Signed), v_b_Gatherings] :: C) h_b_Gatherings M1 (ReifL.flat encG_tr);refine TO.call rfl rfl rfl rfl rfl (orcL rfl aD) (.cons (.agg (.cons .lit (.cons (hrg _) .nil))) .nil) (sem_of (w_r1_All b_Signed g _ (by try rw [hgg]; exact hr9))) (zV R3 (Val.len_gs rfl rfl) (zA R4 (zN ?_)))
 show T _ _ _ _ _ _;apply T.joinA (r := r) (W := AV) (fun j w => ⟨[], [(5, w)], ownL true w encI j :: C⟩) h
 ·intro j h;refine zU rfl (zA R4 (zN (zB (T.nilown (u := encI.u) ?_))))
  show T _ _ _ _ _ _;apply T.iter (r := j) (W := AV) (fun j w => ⟨[], [(1, v_truth), (5, w), (6, iv ((all9.length : Int))), (7, iv (j.1))], ownL true w encI j.2 :: C⟩) (w0 := nilS) h
  ·exact (sb (pk [0,98] rfl))
  rintro ⟨i, out⟩ v2 a h;unfold P_r4_Gone_L1 at h;dsimp only at h;dsimp only;refine zS (zU rfl (zM R4 (zM R4 ?_)));obtain ⟨c13, hc13⟩ := zY (i < (all9.length : Int));refine zV R3 (Val.lss hc13 rfl rfl) (zN ?_);obtain ⟨rfl, hc13, h⟩ | ⟨rfl, hc13, h⟩ := zI hc13 h
  ·refine zC rfl (zK ?_)
   show T _ _ _ _ _ _;apply T.joinA (r := a) (W := AV) (fun j w => ⟨[], [(1, v_truth), (5, w), (6, iv ((all9.length : Int))), (7, iv (i))], ownL true w encI j :: C⟩) h
   ·intro j h;refine zB (zU rfl (zM R4 (zM R4 ?_)));obtain ⟨has18, hr18, h⟩ := andx_some h;obtain ⟨g_2, hgg_2, hrg_2⟩ := Rdl.reif (hs := ownL true v2 encI out :: C) h_truth M1 (ReifL.flat encI_tr);refine TO.call rfl rfl rfl rfl rfl (orcL rfl aD) (.cons (hrg_2 _) (.cons .lit .nil)) (sem_of (w_r1_Has g_2 i _ (by try rw [hgg_2]; exact hr18))) (zV R3 (Val.not rfl) (zN ?_));obtain ⟨rfl, h⟩ | ⟨rfl, h⟩ := zZ h
    ·refine zD rfl (zK ?_);cases h;exact ⟨rfl, v2, (sb .refl)⟩
    refine zC rfl (zT rfl (zM R4 (zM R4 (TO.build1 (en := encI) (a := i) rfl rfl rfl ⟨rfl, rfl⟩ ⟨_, rfl, rfl⟩ (by decide) (by decide) rfl rfl (fun v22=>?_)))));obtain ⟨hk23, h⟩ := chk_some h;refine TO.eff rfl rfl rfl (Eff.append_own (b := 8) (en := encI) (l := out) (l2 := [i]) (p := 1) (q := 0) ⟨rfl, rfl, rfl, ⟨_, rfl, rfl⟩, by decide, by decide⟩ rfl rfl rfl rfl rfl rfl (flat_ones _) (by decide) hk23) ?_;rintro v23 _ rfl;refine zG (_::_::C) rfl (zA R4 (zN ?_));cases h;exact ⟨rfl, v23, (sb (pk [1,98] rfl))⟩
   ·rintro out_2 v2_2 h;refine zT rfl (zM R4 ?_);obtain ⟨hk15, h⟩ := chk_some h;refine zV R3 (Val.add rfl rfl hk15) (zA R4 (zN ?_));cases h;exact ⟨rfl, v2_2, (sb .refl)⟩
  refine zD rfl (zE ?_);cases h;exact ⟨ex_ne, ⟨rfl, v2, (sb .refl)⟩⟩
 ·rintro out v2 h;refine zU rfl (zM R4 (zA R4 (zN (zR ?_))));cases h;exact ⟨rfl, _, rfl, ⟨v2, rfl, .refl⟩⟩
set_option maxRecDepth 10000 in
theorem tf_r4_Mates {k : Nat} (hk : 3 ≤ k) {C : List Thing} {b_Signed : Int} {v_b_Gatherings : AV} {b_Gatherings : List Gat} (h_b_Gatherings : Rdl C encG v_b_Gatherings b_Gatherings) {r : (List Int)} (h : P_r4_Mates b_Signed b_Gatherings = some r) :
  TF (EL k) 49 [.agg [iv (b_Signed), v_b_Gatherings]] C (RepF (fun (w : AV) => w) (fun (w : AV) => ownL true w encI r :: C)) := by
 unfold P_r4_Mates at h;refine TF.enter (fn := Go.Proofs.Tryz.f49) rfl rfl rfl rfl rfl (zU rfl (zQ 2 [_,_] R7 (fun b1=>zA R4 (zN (zU rfl (zA R4 (zN (zU rfl (zV R3 (vW 0 [_,_] R5 R4) ?_)))))))));obtain ⟨all7, hr7, h⟩ := andx_some h;obtain ⟨g, hgg, hrg⟩ := Rdl.reif (hs := .row b1 2 [iv (b_Signed), v_b_Gatherings] :: C) h_b_Gatherings M1 (ReifL.flat encG_tr);refine TO.call rfl rfl rfl rfl rfl (orcL rfl aD) (.cons (.agg (.cons .lit (.cons (hrg _) .nil))) .nil) (sem_of (w_r1_All b_Signed g _ (by try rw [hgg]; exact hr7))) (zV R3 (Val.len_gs rfl rfl) (zA R4 (zN ?_)))
 show T _ _ _ _ _ _;apply T.joinA (r := r) (W := AV) (fun j w => ⟨[], [(3, w)], ownL true w encI j :: .row b1 2 [iv (b_Signed), v_b_Gatherings] :: C⟩) h
 ·intro j h;refine zU rfl (zA R4 (zN (zB (T.nilown (u := encI.u) ?_))))
  show T _ _ _ _ _ _;apply T.iter (r := j) (W := AV) (fun j w => ⟨[], [(1, .ptr b1 0 2), (3, w), (4, iv ((all7.length : Int))), (5, iv (j.1))], ownL true w encI j.2 :: .row b1 2 [iv (b_Signed), v_b_Gatherings] :: C⟩) (w0 := nilS) h
  ·exact (sb .refl)
  rintro ⟨i, out⟩ v2 a h;unfold P_r4_Mates_L1 at h;dsimp only at h;dsimp only;refine zS (zU rfl (zM R4 (zM R4 ?_)));obtain ⟨c11, hc11⟩ := zY (i < (all7.length : Int));refine zV R3 (Val.lss hc11 rfl rfl) (zN ?_);obtain ⟨rfl, hc11, h⟩ | ⟨rfl, hc11, h⟩ := zI hc11 h
  ·refine zC rfl (zK (zS (zB (zT rfl (zM R4 (zV R3 (vW 1 [_,_] R5 R4) (zM R4 ?_)))))));obtain ⟨mate17, hr17, h⟩ := andx_some h;obtain ⟨g_2, hgg_2, hrg_2⟩ := Rdl.reif (hs := ownL true v2 encI out :: .row b1 2 [iv (b_Signed), v_b_Gatherings] :: C) h_b_Gatherings M2 (ReifL.flat encG_tr);refine TO.call rfl rfl rfl rfl rfl (orcL rfl aD) (.cons (.agg (.cons .lit (.cons (hrg_2 _) .nil))) (.cons .lit .nil)) (sem_of (w_r1_Pair b_Signed g_2 i _ (by try rw [hgg_2]; exact hr17))) (TO.build1 (en := encI) (a := mate17) rfl rfl rfl ⟨rfl, rfl⟩ ⟨_, rfl, rfl⟩ (by decide) (by decide) rfl rfl (fun v18=>?_));obtain ⟨hk19, h⟩ := chk_some h;refine TO.eff rfl rfl rfl (Eff.append_own (b := 8) (en := encI) (l := out) (l2 := [mate17]) (p := 1) (q := 0) ⟨rfl, rfl, rfl, ⟨_, rfl, rfl⟩, by decide, by decide⟩ rfl rfl rfl rfl rfl rfl (flat_ones _) (by decide) hk19) ?_;rintro v19 _ rfl;refine zG (_::_::_::C) rfl (zA R4 (zN (zT rfl (zM R4 ?_))));obtain ⟨hk13, h⟩ := chk_some h;refine zV R3 (Val.add rfl rfl hk13) (zA R4 (zN ?_));cases h;exact ⟨rfl, v19, (sb (pk [1,1,98] rfl))⟩
  refine zD rfl (zE ?_);cases h;exact ⟨ex_ne, ⟨rfl, v2, (sb .refl)⟩⟩
 ·rintro out v2 h;refine zU rfl (zM R4 (zA R4 (zN (zR ?_))));cases h;exact ⟨rfl, _, rfl, ⟨v2, rfl, (pk [0,98] rfl)⟩⟩
set_option maxRecDepth 10000 in
theorem tf_r4_Pieces {k : Nat} (hk : 3 ≤ k) {C : List Thing} {b_Signed : Int} {v_b_Gatherings : AV} {b_Gatherings : List Gat} {v_gone : AV} {gone : List Int} (h_b_Gatherings : Rdl C encG v_b_Gatherings b_Gatherings) (h_gone : Rdl C encI v_gone gone) {r : Int} (h : P_r4_Pieces b_Signed b_Gatherings gone = some r) :
  TF (EL k) 51 [.agg [iv (b_Signed), v_b_Gatherings], v_gone] C (RepF (fun (w : Unit) => iv r) (fun (w : Unit) => C)) := by
 unfold P_r4_Pieces at h;refine TF.enter (fn := Go.Proofs.Tryz.f51) rfl rfl rfl rfl rfl (zU rfl (zQ 2 [_,_] R7 (fun b2=>zA R4 (zN (zU rfl (zV R3 (vW 0 [_,_] R5 R4) ?_))))));obtain ⟨y10, hr10, h⟩ := andx_some h;refine TO.callT (first := []) (cap := []) (vs := [.agg [iv (b_Signed), v_b_Gatherings]]) rfl rfl rfl rfl rfl rfl (orcN rfl) (tf_r4_Mates aD (Rdl.mono h_b_Gatherings M1) hr10) ?_;rintro w10;refine zG (_::_::C) rfl (zA R4 (zN (zU rfl (zA R4 (zN ?_)))))
 show T _ _ _ _ _ _;apply T.joinA (r := r) (W := Unit) (fun j w => ⟨[], [(6, iv (j))], ownL true w10 encI y10 :: C⟩) h
 ·intro j h;refine zU rfl (zA R4 (zN (zB ?_)))
  show T _ _ _ _ _ _;apply T.iter (r := j) (W := Unit) (fun j w => ⟨[], [(1, v_gone), (5, w10), (6, iv (j.1)), (7, iv (j.2))], ownL true w10 encI y10 :: C⟩) (w0 := ()) h
  ·exact (sb (pk [0,98] rfl))
  rintro ⟨n, i⟩ _ a h;unfold P_r4_Pieces_L1 at h;dsimp only at h;dsimp only;refine zS (zU rfl (zM R4 (zM R4 (zV R3 (Val.len_l h_gone M1 rfl rfl) ?_))));obtain ⟨c14, hc14⟩ := zY (i < (gone.length : Int));refine zV R3 (Val.lss hc14 rfl rfl) (zN ?_);obtain ⟨rfl, hc14, h⟩ | ⟨rfl, hc14, h⟩ := zI hc14 h
  ·refine zC rfl (zK ?_)
   show T _ _ _ _ _ _;apply T.joinA (r := a) (W := Unit) (fun j w => ⟨[], [(1, v_gone), (5, w10), (6, iv (j)), (7, iv (i))], ownL true w10 encI y10 :: C⟩) h
   ·intro j h;refine zB (zU rfl (zM R4 (zM R4 (zM R4 ?_))));obtain ⟨a20, hia20, ea20, h⟩ := el_some h;refine TO.fact (rdl_at h_gone M1 hia20 ea20) (fun hp=>?_);obtain ⟨pa20, hpa20, hva20⟩ := hp;refine zV R3 (hva20 ⟨rfl, rfl⟩ rfl rfl) (zV R3 (Val.load_e hpa20 M1 ⟨_, rfl, rfl⟩ rfl rfl) ?_);obtain ⟨a22, hia22, ea22, h⟩ := el_some h;refine TO.fact (own_at (en := encI) (p := 0) rfl hia22) (fun hp=>?_);obtain ⟨ida22, ata22⟩ := hp;refine zV R3 (Val.iaddr_at (en := encI) ata22 ⟨rfl, rfl⟩ rfl rfl hia22) (zV R3 (Val.load_ownL (en := encI) (p := 0) (j := 0) rfl ata22 ⟨_, rfl, rfl⟩ rfl ea22 rfl) (zA R4 (zN ?_)))
    show T _ _ _ _ _ _;apply T.joinA (r := j) (W := Unit) (fun j w => ⟨[], [(1, v_gone), (5, w10), (6, iv (n)), (7, iv (i)), (39, bv j)], ownL true w10 encI y10 :: C⟩) h
    ·intro j h;refine zT rfl (zM R4 ?_);obtain ⟨c25, hc25⟩ := zY (a22 < 0);refine zV R3 (Val.lss hc25 rfl rfl) (zM R4 ?_);obtain ⟨rfl, hc25, h⟩ | ⟨rfl, hc25, h⟩ := zI hc25 h
     ·refine zO R3 (zO R3 (zO R3 (zO R3 (zO R3 (zO R3 (zP R6 (zM R4 (zO R3 (zO R3 (zO R3 (zO R3 (zP R6 (zN ?_)))))))))))));cases h;exact ⟨rfl, (), (sb .refl)⟩
     refine zM R4 (zM R4 (zM R4 ?_));obtain ⟨a30, hia30, ea30, h⟩ := el_some h;refine TO.fact (rdl_at h_gone M1 hia30 ea30) (fun hp=>?_);obtain ⟨pa30, hpa30, hva30⟩ := hp;refine zV R3 (hva30 ⟨rfl, rfl⟩ rfl rfl) (zV R3 (Val.load_e hpa30 M1 ⟨_, rfl, rfl⟩ rfl rfl) ?_);obtain ⟨c32, hc32⟩ := zY (a22 > a30);refine zV R3 (Val.gtr hc32 rfl rfl) (zP R6 (zM R4 ?_));obtain ⟨rfl, hc32, h⟩ | ⟨rfl, hc32, h⟩ := zI hc32 h
     ·refine zO R3 (zO R3 (zO R3 (zO R3 (zP R6 (zN ?_)))));cases h;exact ⟨rfl, (), (sb .refl)⟩
     refine zM R4 (zM R4 ?_);obtain ⟨has37, hr37, h⟩ := andx_some h;obtain ⟨g, hgg, hrg⟩ := Rdl.reif (hs := ownL true w10 encI y10 :: C) h_gone M1 (ReifL.flat encI_tr);refine TO.call rfl rfl rfl rfl rfl (orcL rfl aD) (.cons (hrg _) (.cons .lit .nil)) (sem_of (w_r1_Has g a22 _ (by try rw [hgg]; exact hr37))) (zV R3 (Val.not rfl) (zP R6 (zN ?_)));cases h;exact ⟨rfl, (), (sb .refl)⟩
    ·rintro x39 _ h;obtain ⟨rfl, h⟩ | ⟨rfl, h⟩ := zZ h
     ·refine zC rfl (zT rfl (zM R4 ?_));obtain ⟨hk41, h⟩ := chk_some h;refine zV R3 (Val.add rfl rfl hk41) (zA R4 (zN ?_));cases h;exact ⟨rfl, (), (sb .refl)⟩
     refine zD rfl (zK ?_);cases h;exact ⟨rfl, (), (sb .refl)⟩
   ·rintro n_2 _ h;refine zT rfl (zM R4 ?_);obtain ⟨hk16, h⟩ := chk_some h;refine zV R3 (Val.add rfl rfl hk16) (zA R4 (zN ?_));cases h;exact ⟨rfl, (), (sb .refl)⟩
  refine zD rfl (zE ?_);cases h;exact ⟨ex_ne, ⟨rfl, (), (sb .refl)⟩⟩
 ·rintro n _ h;refine zU rfl (zM R4 (zA R4 (zN (zR ?_))));cases h;exact ⟨rfl, _, rfl, ⟨(), rfl, (pk [98] rfl)⟩⟩
set_option maxRecDepth 10000 in
theorem tf_r4_Runs {k : Nat} (hk : 2 ≤ k) {C : List Thing} {b_Signed : Int} {v_b_Gatherings : AV} {b_Gatherings : List Gat} {v_truth : AV} {truth : List Int} (h_b_Gatherings : Rdl C encG v_b_Gatherings b_Gatherings) (h_truth : Rdl C encI v_truth truth) {r : (List S_duodecimoref04_Run)} (h : P_r4_Runs b_Signed b_Gatherings truth = some r) :
  TF (EL k) 26 [.agg [iv (b_Signed), v_b_Gatherings], v_truth] C (RepF (fun (w : AV) => w) (fun (w : AV) => ownL true w enc_duodecimoref04_Run r :: C)) := by
 unfold P_r4_Runs at h;refine TF.enter (fn := Go.Proofs.Tryz.f26) rfl rfl rfl rfl rfl (zU rfl (zQ 2 [_,_] R7 (fun b2=>zA R4 (zN (zU rfl (zV R3 (vW 0 [_,_] R5 R4) ?_))))));obtain ⟨all12, hr12, h⟩ := andx_some h;obtain ⟨g, hgg, hrg⟩ := Rdl.reif (hs := .row b2 2 [iv (b_Signed), v_b_Gatherings] :: C) h_b_Gatherings M1 (ReifL.flat encG_tr);refine TO.call rfl rfl rfl rfl rfl (orcL rfl aD) (.cons (.agg (.cons .lit (.cons (hrg _) .nil))) .nil) (sem_of (w_r1_All b_Signed g _ (by try rw [hgg]; exact hr12))) (zA R4 (zN (zU rfl (zM R4 ?_))));obtain ⟨y14, hr14, h⟩ := andx_some h;obtain ⟨g_2, hgg_2, hrg_2⟩ := Rdl.reif (hs := .row b2 2 [iv (b_Signed), v_b_Gatherings] :: C) h_truth M1 (ReifL.flat encI_tr);refine TO.call rfl rfl rfl rfl rfl (orcL rfl aD) (.cons (hrg_2 _) .nil) (sem_of (w_r4_Plain g_2 _ (by try rw [hgg_2]; exact hr14))) (zA R4 (zN (zU rfl (zA R4 (zN ?_)))))
 show T _ _ _ _ _ _;apply T.joinA (r := r) (W := AV) (fun j w => ⟨[], [(7, w)], ownL true w enc_duodecimoref04_Run j :: C⟩) h
 ·intro j h;refine zU rfl (zA R4 (zN (zB (T.nilown (u := enc_duodecimoref04_Run.u) ?_))))
  show T _ _ _ _ _ _;apply T.iter (r := j) (W := AV) (fun j w => ⟨[], [(1, v_truth), (5, (GSo true encL all12).v), (6, (GSo true encI y14).v), (7, w), (8, iv (j.1))], ownL true w enc_duodecimoref04_Run j.2 :: C⟩) (w0 := nilS) h
  ·exact (sb (pk [0,98] rfl))
  rintro ⟨i, out⟩ v2 a h;unfold P_r4_Runs_L1 at h;dsimp only at h;dsimp only;refine zS (zU rfl (zM R4 (zM R4 (zV R3 (Val.len_gs rfl rfl) ?_))));obtain ⟨c18, hc18⟩ := zY (i < (y14.length : Int));refine zV R3 (Val.lss hc18 rfl rfl) (zN ?_);obtain ⟨rfl, hc18, h⟩ | ⟨rfl, hc18, h⟩ := zI hc18 h
  ·refine zC rfl (zK ?_)
   show T _ _ _ _ _ _;apply T.joinA (r := a) (W := AV) (fun j w => ⟨[], [(1, v_truth), (5, (GSo true encL all12).v), (6, (GSo true encI y14).v), (7, w), (8, iv (i))], ownL true w enc_duodecimoref04_Run j :: C⟩) h
   ·intro j h;refine zB (zU rfl (zM R4 (zM R4 (zM R4 ?_))));obtain ⟨a24, hia24, ea24, h⟩ := el_some h;refine TO.fact (rdl_at (Rdl.gs (C := C) (GSo true encI y14)) M1 hia24 ea24) (fun hp=>?_);obtain ⟨pa24, hpa24, hva24⟩ := hp;refine zV R3 (hva24 ⟨rfl, rfl⟩ rfl rfl) (zV R3 (Val.load_e hpa24 M1 ⟨_, rfl, rfl⟩ rfl rfl) ?_);obtain ⟨a26, hia26, ea26, h⟩ := el_some h;refine TO.fact (rdl_at h_truth M1 hia26 ea26) (fun hp=>?_);obtain ⟨pa26, hpa26, hva26⟩ := hp;refine zV R3 (hva26 ⟨rfl, rfl⟩ rfl rfl) (zV R3 (Val.load_e hpa26 M1 ⟨_, rfl, rfl⟩ rfl rfl) (zA R4 (zN ?_)))
    show T _ _ _ _ _ _;apply T.join (r := j) (W := Unit) (fun j w => ⟨[], [(1, v_truth), (5, (GSo true encL all12).v), (6, (GSo true encI y14).v), (7, v2), (8, iv (i)), (9, iv (a26))], ownL true v2 enc_duodecimoref04_Run out :: C⟩) h
    ·intro j h;refine zU rfl (zM R4 ?_);obtain ⟨c29, hc29⟩ := zY (i > 0);refine zV R3 (Val.gtr hc29 rfl rfl) (zN ?_);obtain ⟨rfl, hc29, h⟩ | ⟨rfl, hc29, h⟩ := zI hc29 h
     ·refine zC rfl (zU rfl (zM R4 (zM R4 (zV R3 (Val.len_own (p := 0) rfl rfl rfl) ?_))));obtain ⟨hk33, h⟩ := chk_some h;refine zV R3 (Val.sub rfl rfl hk33) ?_;obtain ⟨a34, hia34, ea34, h⟩ := el_some h;refine TO.fact (own_at (en := enc_duodecimoref04_Run) (p := 0) rfl hia34) (fun hp=>?_);obtain ⟨ida34, ata34⟩ := hp;refine zV R3 (Val.iaddr_at (en := enc_duodecimoref04_Run) ata34 ⟨rfl, rfl⟩ rfl rfl hia34) (zV R3 (Val.faddr_ptr_ rfl rfl) (zV R3 (Val.load_ownL (en := enc_duodecimoref04_Run) (p := 0) (j := 2) rfl ata34 ⟨_, rfl, rfl⟩ rfl ea34 rfl) (zA R4 (zN ?_))))
      show T _ _ _ _ _ _;apply T.joinA (r := j) (W := Unit) (fun j w => ⟨[], [(1, v_truth), (5, (GSo true encL all12).v), (6, (GSo true encI y14).v), (7, v2), (8, iv (i)), (9, iv (a26)), (52, bv j)], ownL true v2 enc_duodecimoref04_Run out :: C⟩) h
      ·intro j h;refine T.draw (fun v => sameC_refl v) (l1 := [0, 1, 2, 3, 4, 5, 6, 7, 8, 9, 10, 11, 12, 13, 14, 15]) (l2 := []) (by kernel_rfl) (by kernel_rfl) (zM R4 (zM R4 ?_));obtain ⟨a39, hia39, ea39, h⟩ := el_some h;refine TO.fact (rdl_at (Rdl.gs (C := C) (GSo true encL all12)) M1 hia39 ea39) (fun hp=>?_);obtain ⟨pa39, hpa39, hva39⟩ := hp;refine zV R3 (hva39 ⟨rfl, rfl⟩ rfl rfl) (zV R3 (Val.faddr_e (fo := 0) hpa39 rfl rfl rfl) (zV R3 (Val.load_e (PtE.add hpa39 (by decide)) M1 ⟨_, rfl, rfl⟩ rfl rfl) (zM R4 (zM R4 ?_))));obtain ⟨a44, hia44, ea44, h⟩ := el_some h;refine TO.fact (rdl_at (Rdl.gs (C := C) (GSo true encL all12)) M1 hia44 ea44) (fun hp=>?_);obtain ⟨pa44, hpa44, hva44⟩ := hp;refine zV R3 (hva44 ⟨rfl, rfl⟩ rfl rfl) (zV R3 (Val.faddr_e (fo := 0) hpa44 rfl rfl rfl) (zV R3 (Val.load_e (PtE.add hpa44 (by decide)) M1 ⟨_, rfl, rfl⟩ rfl rfl) ?_));obtain ⟨c47, hc47⟩ := zY (a39.g = a44.g);refine zV R3 (Val.eql hc47 rfl rfl) (zM R4 ?_);obtain ⟨rfl, hc47, h⟩ | ⟨rfl, hc47, h⟩ := zI hc47 h
       ·refine zM R4 (zM R4 ?_);obtain ⟨c51, hc51⟩ := zY (a34.last < a26);refine zV R3 (Val.lss hc51 rfl rfl) (zP R6 (zN ?_));subst hc51;cases h;exact ⟨rfl, (), (sb .refl)⟩
       refine zO R3 (zO R3 (zO R3 (zP R6 (zN ?_))));cases h;exact ⟨rfl, (), (sb .refl)⟩
      ·rintro x52 _ h;obtain ⟨rfl, h⟩ | ⟨rfl, h⟩ := zZ h
       ·refine zC rfl (zU rfl (zM R4 (zM R4 (zV R3 (Val.len_own (p := 0) rfl rfl rfl) ?_))));obtain ⟨hk56, h⟩ := chk_some h;refine zV R3 (Val.sub rfl rfl hk56) (zM R4 ?_);obtain ⟨a58, hia58, ea58, h⟩ := el_some h;refine TO.fact (own_at (en := enc_duodecimoref04_Run) (p := 0) rfl hia58) (fun hp=>?_);obtain ⟨ida58, ata58⟩ := hp;refine zV R3 (Val.iaddr_at (en := enc_duodecimoref04_Run) ata58 ⟨rfl, rfl⟩ rfl rfl hia58) (zV R3 (Val.faddr_ptr_ rfl rfl) (TO.eff0 rfl rfl (Eff.store_ownE (en := enc_duodecimoref04_Run) (p := 0) (a := a58) (a' := (⟨a58.item, a58.first, a26⟩ : S_duodecimoref04_Run)) (j := 2) (cv := [_]) rfl ata58 ea58 rfl rfl (by decide) rfl rfl rfl rfl aG rfl) ?_));rintro _ rfl;refine zG (_::C) rfl (zN (zE ?_));cases h;exact ⟨ex_ne, ⟨rfl, v2, (sb .refl)⟩⟩
       refine zD rfl (zK ?_);cases h;exact ⟨rfl, (), (sb .refl)⟩
     refine zD rfl (zK ?_);cases h;exact ⟨rfl, (), (sb .refl)⟩
    ·rintro _ _ h;refine zT rfl (zM R4 (zM R4 (zM R4 ?_)));obtain ⟨a63, hia63, ea63, h⟩ := el_some h;refine TO.fact (rdl_at (Rdl.gs (C := C) (GSo true encI y14)) M1 hia63 ea63) (fun hp=>?_);obtain ⟨pa63, hpa63, hva63⟩ := hp;refine zV R3 (hva63 ⟨rfl, rfl⟩ rfl rfl) (zV R3 (Val.load_e hpa63 M1 ⟨_, rfl, rfl⟩ rfl rfl) (zM R4 (zM R4 (zV R3 (Val.buildC (cs := [_, _, _]) (vs := [(_, _), (_, _), (_, _)]) (ws := [(_, [_]), (_, [_]), (_, [_])]) rfl rfl (CellsL.cons rfl (CellsL.cons rfl (CellsL.cons rfl CellsL.nil))) rfl) (TO.build1 (en := enc_duodecimoref04_Run) (a := (⟨a63, a26, a26⟩ : S_duodecimoref04_Run)) rfl rfl rfl ⟨rfl, rfl⟩ ⟨_, rfl, rfl⟩ (by decide) (by decide) rfl rfl (fun v68=>?_))))));obtain ⟨hk69, h⟩ := chk_some h;refine TO.eff rfl rfl rfl (Eff.append_own (b := 24) (en := enc_duodecimoref04_Run) (l := out) (l2 := [(⟨a63, a26, a26⟩ : S_duodecimoref04_Run)]) (p := 1) (q := 0) ⟨rfl, rfl, rfl, ⟨_, rfl, rfl⟩, by decide, by decide⟩ rfl rfl rfl rfl rfl rfl (en_ones enc_duodecimoref04_Run_ones _) (by decide) hk69) ?_;rintro v69 _ rfl;refine zG (_::_::C) rfl (zA R4 (zN ?_));cases h;exact ⟨rfl, v69, (sb (pk [1,98] rfl))⟩
   ·rintro out_2 v2_2 h;refine zT rfl (zM R4 ?_);obtain ⟨hk20, h⟩ := chk_some h;refine zV R3 (Val.add rfl rfl hk20) (zA R4 (zN ?_));cases h;exact ⟨rfl, v2_2, (sb .refl)⟩
  refine zD rfl (zE ?_);cases h;exact ⟨ex_ne, ⟨rfl, v2, (sb .refl)⟩⟩
 ·rintro out v2 h;refine zU rfl (zM R4 (zA R4 (zN (zR ?_))));cases h;exact ⟨rfl, _, rfl, ⟨v2, rfl, .refl⟩⟩
set_option maxRecDepth 10000 in
theorem tf_r4_Kept {k : Nat} (hk : 0 ≤ k) {C : List Thing} {v_runs : AV} {runs : List S_duodecimoref04_Run} (h_runs : Rdl C enc_duodecimoref04_Run v_runs runs) {r : (List Int)} (h : P_r4_Kept runs = some r) :
  TF (EL k) 53 [v_runs] C (RepF (fun (w : AV) => w) (fun (w : AV) => ownL true w encI r :: C)) := by
 unfold P_r4_Kept at h;refine TF.enter (fn := Go.Proofs.Tryz.f53) rfl rfl rfl rfl rfl (zU rfl (zA R4 (zN (zU rfl (zM R4 (zV R3 (Val.len_l h_runs mem0 rfl rfl) ?_))))));obtain ⟨hk12, h⟩ := chk_some h;refine TO.makeE (en := encI) (0) (b := 8) rfl rfl rfl ⟨rfl, rfl⟩ rfl rfl rfl rfl rfl hk12 (by decide) (fun v12=>zA R4 (zN (zU rfl (zM R4 (zV R3 (Val.len_l h_runs M1 rfl rfl) ?_)))));obtain ⟨hk15, h⟩ := chk_some h;refine TO.makeE (en := encI) (0) (b := 8) rfl rfl rfl ⟨rfl, rfl⟩ rfl rfl rfl rfl rfl hk15 (by decide) (fun v15=>zA R4 (zN ?_))
 show T _ _ _ _ _ _;apply T.joinA (r := r) (W := Unit) (fun j w => ⟨[], [(0, v_runs), (3, v12), (4, v15)], ownL false v15 encI j.1 :: ownL false v12 encI j.2 :: C⟩) h
 ·intro j h;refine zU rfl (zM R4 (zV R3 (Val.len_l h_runs M2 rfl rfl) ?_));obtain ⟨hk18, h⟩ := chk_some h;refine zV R3 (Val.sub rfl rfl hk18) (zA R4 (zN (zB ?_)))
  show T _ _ _ _ _ _;apply T.iter (r := j) (W := Unit) (fun j w => ⟨[], [(0, v_runs), (3, v12), (4, v15), (5, iv (j.1))], ownL false v15 encI j.2.1 :: ownL false v12 encI j.2.2 :: C⟩) (w0 := ()) h
  ·exact (sb .refl)
  rintro ⟨i, next, many⟩ _ a h;unfold P_r4_Kept_L1 at h;dsimp only at h;dsimp only;refine zS (zU rfl (zM R4 ?_));obtain ⟨c20, hc20⟩ := zY (i ≥ 0);refine zV R3 (Val.geq hc20 rfl rfl) (zN ?_);obtain ⟨rfl, hc20, h⟩ | ⟨rfl, hc20, h⟩ := zI hc20 h
  ·refine zC rfl (zK ?_)
   show T _ _ _ _ _ _;apply T.joinA (r := a) (W := Unit) (fun j w => ⟨[], [(0, v_runs), (3, v12), (4, v15), (5, iv (i))], ownL false v15 encI j.1 :: ownL false v12 encI j.2 :: C⟩) h
   ·intro j h;refine zB (zU rfl (zM R4 (zM R4 (zM R4 (zM R4 ?_)))));obtain ⟨a27, hia27, ea27, h⟩ := el_some h;refine TO.fact (own_at (en := encI) (p := 1) rfl hia27) (fun hp=>?_);obtain ⟨ida27, ata27⟩ := hp;refine zV R3 (Val.iaddr_at (en := encI) ata27 ⟨rfl, rfl⟩ rfl rfl hia27) (TO.eff0 rfl rfl (Eff.store_ownE (en := encI) (p := 1) (a := a27) (a' := 1) (j := 0) (cv := [_]) rfl ata27 ea27 rfl rfl (by decide) rfl rfl rfl rfl aG rfl) ?_);rintro _ rfl;refine zG (_::_::C) rfl ?_;obtain ⟨a28, hia28, ea28, h⟩ := el_some h;refine TO.fact (own_at (en := encI) (p := 0) rfl hia28) (fun hp=>?_);obtain ⟨ida28, ata28⟩ := hp;refine zV R3 (Val.iaddr_at (en := encI) ata28 ⟨rfl, rfl⟩ rfl rfl hia28) (TO.eff0 rfl rfl (Eff.store_ownE (en := encI) (p := 0) (a := a28) (a' := (-1)) (j := 0) (cv := [_]) rfl ata28 ea28 rfl rfl (by decide) rfl rfl rfl rfl aG rfl) ?_);rintro _ rfl;refine zG (_::_::C) rfl (zN (zU rfl (zM R4 ?_)));obtain ⟨hk30, h⟩ := chk_some h;refine zV R3 (Val.add rfl rfl hk30) (zA R4 (zN (zB ?_)))
    show T _ _ _ _ _ _;apply T.iter (r := j) (W := Unit) (fun j w => ⟨[], [(0, v_runs), (3, v12), (4, v15), (5, iv (i)), (6, iv (j.1))], ownL false v15 encI j.2.1 :: ownL false v12 encI j.2.2 :: C⟩) (w0 := ()) h
    ·exact (sb .refl)
    rintro ⟨k_, next_2, many_2⟩ _ a h;unfold P_r4_Kept_L2 at h;dsimp only at h;dsimp only;refine zS (zU rfl (zM R4 (zM R4 (zV R3 (Val.len_l h_runs M2 rfl rfl) ?_))));obtain ⟨c34, hc34⟩ := zY (k_ < (runs.length : Int));refine zV R3 (Val.lss hc34 rfl rfl) (zN ?_);obtain ⟨rfl, hc34, h⟩ | ⟨rfl, hc34, h⟩ := zI hc34 h
    ·refine zC rfl (zK ?_)
     show T _ _ _ _ _ _;apply T.joinA (r := a) (W := Unit) (fun j w => ⟨[], [(0, v_runs), (3, v12), (4, v15), (5, iv (i)), (6, iv (k_))], ownL false v15 encI j.1 :: ownL false v12 encI j.2 :: C⟩) h
     ·intro j h;refine zB ?_
      show T _ _ _ _ _ _;apply T.joinA (r := j) (W := Unit) (fun j w => ⟨[], [(0, v_runs), (3, v12), (4, v15), (5, iv (i)), (6, iv (k_)), (59, bv j)], ownL false v15 encI next_2 :: ownL false v12 encI many_2 :: C⟩) h
      ·intro j h;refine T.draw (fun v => sameC_refl v) (l1 := [0, 1, 2, 3, 4, 5, 6, 7, 8, 9, 10, 11, 12, 13, 14, 15, 16, 17, 18, 19, 20, 21, 22]) (l2 := []) (by kernel_rfl) (by kernel_rfl) (zM R4 (zM R4 ?_));obtain ⟨a39, hia39, ea39, h⟩ := el_some h;refine TO.fact (rdl_at h_runs M2 hia39 ea39) (fun hp=>?_);obtain ⟨pa39, hpa39, hva39⟩ := hp;refine zV R3 (hva39 ⟨rfl, rfl⟩ rfl rfl) (zV R3 (Val.faddr_e (fo := 1) hpa39 rfl rfl rfl) (zV R3 (Val.load_e (PtE.add hpa39 (by decide)) M2 ⟨_, rfl, rfl⟩ rfl rfl) (zM R4 (zM R4 ?_))));obtain ⟨a44, hia44, ea44, h⟩ := el_some h;refine TO.fact (rdl_at h_runs M2 hia44 ea44) (fun hp=>?_);obtain ⟨pa44, hpa44, hva44⟩ := hp;refine zV R3 (hva44 ⟨rfl, rfl⟩ rfl rfl) (zV R3 (Val.faddr_e (fo := 2) hpa44 rfl rfl rfl) (zV R3 (Val.load_e (PtE.add hpa44 (by decide)) M2 ⟨_, rfl, rfl⟩ rfl rfl) ?_));obtain ⟨c47, hc47⟩ := zY (a39.first > a44.last);refine zV R3 (Val.gtr hc47 rfl rfl) (zM R4 ?_);obtain ⟨rfl, hc47, h⟩ | ⟨rfl, hc47, h⟩ := zI hc47 h
       ·refine zM R4 (zM R4 ?_);obtain ⟨a51, hia51, ea51, h⟩ := el_some h;refine TO.fact (own_at (en := encI) (p := 1) rfl hia51) (fun hp=>?_);obtain ⟨ida51, ata51⟩ := hp;refine zV R3 (Val.iaddr_at (en := encI) ata51 ⟨rfl, rfl⟩ rfl rfl hia51) (zV R3 (Val.load_ownL (en := encI) (p := 1) (j := 0) rfl ata51 ⟨_, rfl, rfl⟩ rfl ea51 rfl) ?_);obtain ⟨hk53, h⟩ := chk_some h;refine zV R3 (Val.add rfl rfl hk53) (zM R4 (zM R4 ?_));obtain ⟨a56, hia56, ea56, h⟩ := el_some h;refine TO.fact (own_at (en := encI) (p := 1) rfl hia56) (fun hp=>?_);obtain ⟨ida56, ata56⟩ := hp;refine zV R3 (Val.iaddr_at (en := encI) ata56 ⟨rfl, rfl⟩ rfl rfl hia56) (zV R3 (Val.load_ownL (en := encI) (p := 1) (j := 0) rfl ata56 ⟨_, rfl, rfl⟩ rfl ea56 rfl) ?_);obtain ⟨c58, hc58⟩ := zY ((a51 + 1) > a56);refine zV R3 (Val.gtr hc58 rfl rfl) (zP R6 (zN ?_));subst hc58;cases h;exact ⟨rfl, (), (sb .refl)⟩
       refine zO R3 (zO R3 (zO R3 (zO R3 (zO R3 (zO R3 (zO R3 (zO R3 (zO R3 (zO R3 (zP R6 (zN ?_)))))))))));cases h;exact ⟨rfl, (), (sb .refl)⟩
      ·rintro x59 _ h;obtain ⟨rfl, h⟩ | ⟨rfl, h⟩ := zZ h
       ·refine zC rfl (zT rfl (zM R4 (zM R4 (zM R4 (zM R4 (zM R4 (zM R4 ?_)))))));obtain ⟨a66, hia66, ea66, h⟩ := el_some h;refine TO.fact (own_at (en := encI) (p := 1) rfl hia66) (fun hp=>?_);obtain ⟨ida66, ata66⟩ := hp;refine zV R3 (Val.iaddr_at (en := encI) ata66 ⟨rfl, rfl⟩ rfl rfl hia66) (zV R3 (Val.load_ownL (en := encI) (p := 1) (j := 0) rfl ata66 ⟨_, rfl, rfl⟩ rfl ea66 rfl) ?_);obtain ⟨hk68, h⟩ := chk_some h;refine zV R3 (Val.add rfl rfl hk68) (zM R4 ?_);obtain ⟨a70, hia70, ea70, h⟩ := el_some h;refine TO.fact (own_at (en := encI) (p := 1) rfl hia70) (fun hp=>?_);obtain ⟨ida70, ata70⟩ := hp;refine zV R3 (Val.iaddr_at (en := encI) ata70 ⟨rfl, rfl⟩ rfl rfl hia70) (TO.eff0 rfl rfl (Eff.store_ownE (en := encI) (p := 1) (a := a70) (a' := (a66 + 1)) (j := 0) (cv := [_]) rfl ata70 ea70 rfl rfl (by decide) rfl rfl rfl rfl aG rfl) ?_);rintro _ rfl;refine zG (_::_::C) rfl ?_;obtain ⟨a71, hia71, ea71, h⟩ := el_some h;refine TO.fact (own_at (en := encI) (p := 0) rfl hia71) (fun hp=>?_);obtain ⟨ida71, ata71⟩ := hp;refine zV R3 (Val.iaddr_at (en := encI) ata71 ⟨rfl, rfl⟩ rfl rfl hia71) (TO.eff0 rfl rfl (Eff.store_ownE (en := encI) (p := 0) (a := a71) (a' := k_) (j := 0) (cv := [_]) rfl ata71 ea71 rfl rfl (by decide) rfl rfl rfl rfl aG rfl) ?_);rintro _ rfl;refine zG (_::_::C) rfl (zN ?_);cases h;exact ⟨rfl, (), (sb .refl)⟩
       refine zD rfl (zK ?_);cases h;exact ⟨rfl, (), (sb .refl)⟩
     ·rintro ⟨next_3, many_3⟩ _ h;dsimp only at h;dsimp only;refine zT rfl (zM R4 ?_);obtain ⟨hk36, h⟩ := chk_some h;refine zV R3 (Val.add rfl rfl hk36) (zA R4 (zN ?_));cases h;exact ⟨rfl, (), (sb .refl)⟩
    refine zD rfl (zE ?_);cases h;exact ⟨ex_ne, ⟨rfl, (), (sb .refl)⟩⟩
   ·rintro ⟨next_2, many_2⟩ _ h;dsimp only at h;dsimp only;refine zT rfl (zM R4 ?_);obtain ⟨hk22, h⟩ := chk_some h;refine zV R3 (Val.sub rfl rfl hk22) (zA R4 (zN ?_));cases h;exact ⟨rfl, (), (sb .refl)⟩
  refine zD rfl (zE ?_);cases h;exact ⟨ex_ne, ⟨rfl, (), (sb .refl)⟩⟩
 ·rintro ⟨next, many⟩ _ h;dsimp only at h;dsimp only;refine zU rfl (zA R4 (zN ?_))
  show T _ _ _ _ _ _;apply T.joinA (r := r) (W := Unit) (fun j w => ⟨[], [(4, v15), (7, iv (j))], ownL false v15 encI next :: ownL false v12 encI many :: C⟩) h
  ·intro j h;refine zU rfl (zA R4 (zN (zB ?_)))
   show T _ _ _ _ _ _;apply T.iter (r := j) (W := Unit) (fun j w => ⟨[], [(0, v_runs), (3, v12), (4, v15), (7, iv (j.1)), (8, iv (j.2))], ownL false v15 encI next :: ownL false v12 encI many :: C⟩) (w0 := ()) h
   ·exact (sb .refl)
   rintro ⟨at_, i⟩ _ a h;unfold P_r4_Kept_L3 at h;dsimp only at h;dsimp only;refine zS (zU rfl (zM R4 (zM R4 (zV R3 (Val.len_l h_runs M2 rfl rfl) ?_))));obtain ⟨c75, hc75⟩ := zY (i < (runs.length : Int));refine zV R3 (Val.lss hc75 rfl rfl) (zN ?_);obtain ⟨rfl, hc75, h⟩ | ⟨rfl, hc75, h⟩ := zI hc75 h
   ·refine zC rfl (zK ?_)
    show T _ _ _ _ _ _;apply T.joinA (r := a) (W := Unit) (fun j w => ⟨[], [(0, v_runs), (3, v12), (4, v15), (7, iv (j)), (8, iv (i))], ownL false v15 encI next :: ownL false v12 encI many :: C⟩) h
    ·intro j h;refine zB ?_
     show T _ _ _ _ _ _;apply T.joinA (r := j) (W := Unit) (fun j w => ⟨[], [(0, v_runs), (3, v12), (4, v15), (7, iv (at_)), (8, iv (i)), (90, bv j)], ownL false v15 encI next :: ownL false v12 encI many :: C⟩) h
     ·intro j h;refine T.draw (fun v => sameC_refl v) (l1 := [0, 1, 2, 3, 4, 5, 6, 7, 8, 9, 10, 11, 12]) (l2 := []) (by kernel_rfl) (by kernel_rfl) (zM R4 ?_);obtain ⟨c79, hc79⟩ := zY (at_ < 0);refine zV R3 (Val.lss hc79 rfl rfl) (zM R4 ?_);obtain ⟨rfl, hc79, h⟩ | ⟨rfl, hc79, h⟩ := zI hc79 h
      ·refine zO R3 (zO R3 (zO R3 (zO R3 (zO R3 (zO R3 (zO R3 (zO R3 (zO R3 (zP R6 (zN ?_))))))))));cases h;exact ⟨rfl, (), (sb .refl)⟩
      refine zM R4 (zM R4 ?_);obtain ⟨a83, hia83, ea83, h⟩ := el_some h;refine TO.fact (own_at (en := encI) (p := 1) rfl hia83) (fun hp=>?_);obtain ⟨ida83, ata83⟩ := hp;refine zV R3 (Val.iaddr_at (en := encI) ata83 ⟨rfl, rfl⟩ rfl rfl hia83) (zV R3 (Val.load_ownL (en := encI) (p := 1) (j := 0) rfl ata83 ⟨_, rfl, rfl⟩ rfl ea83 rfl) (zM R4 (zM R4 ?_)));obtain ⟨a87, hia87, ea87, h⟩ := el_some h;refine TO.fact (own_at (en := encI) (p := 1) rfl hia87) (fun hp=>?_);obtain ⟨ida87, ata87⟩ := hp;refine zV R3 (Val.iaddr_at (en := encI) ata87 ⟨rfl, rfl⟩ rfl rfl hia87) (zV R3 (Val.load_ownL (en := encI) (p := 1) (j := 0) rfl ata87 ⟨_, rfl, rfl⟩ rfl ea87 rfl) ?_);obtain ⟨c89, hc89⟩ := zY (a83 > a87);refine zV R3 (Val.gtr hc89 rfl rfl) (zP R6 (zN ?_));subst hc89;cases h;exact ⟨rfl, (), (sb .refl)⟩
     ·rintro x90 _ h;obtain ⟨rfl, h⟩ | ⟨rfl, h⟩ := zZ h
      ·refine zC rfl (zT rfl (zM R4 (zA R4 (zN ?_))));cases h;exact ⟨rfl, (), (sb .refl)⟩
      refine zD rfl (zK ?_);cases h;exact ⟨rfl, (), (sb .refl)⟩
    ·rintro at__2 _ h;refine zT rfl (zM R4 ?_);obtain ⟨hk77, h⟩ := chk_some h;refine zV R3 (Val.add rfl rfl hk77) (zA R4 (zN ?_));cases h;exact ⟨rfl, (), (sb .refl)⟩
   refine zD rfl (zE ?_);cases h;exact ⟨ex_ne, ⟨rfl, (), (sb .refl)⟩⟩
  ·rintro at_ _ h;refine zU rfl (zA R4 (zN ?_))
   show T _ _ _ _ _ _;apply T.joinA (r := r) (W := AV) (fun j w => ⟨[], [(9, w)], ownL true w encI j :: ownL false v15 encI next :: C⟩) h
   ·intro j h;refine zB (T.nilown (u := encI.u) ?_)
    show T _ _ _ _ _ _;apply T.iter (r := j) (W := AV) (fun j w => ⟨[], [(4, v15), (7, iv (j.1)), (9, w)], ownL true w encI j.2 :: ownL false v15 encI next :: C⟩) (w0 := nilS) h
    ·exact (sb (pk [0,0,98] rfl))
    rintro ⟨at__2, out⟩ v3 a h;unfold P_r4_Kept_L4 at h;dsimp only at h;dsimp only;refine zS (zU rfl (zM R4 ?_));obtain ⟨c93, hc93⟩ := zY (at__2 ≥ 0);refine zV R3 (Val.geq hc93 rfl rfl) (zN ?_);obtain ⟨rfl, hc93, h⟩ | ⟨rfl, hc93, h⟩ := zI hc93 h
    ·refine zC rfl (zK (zB (zU rfl (zM R4 (zM R4 (TO.build1 (en := encI) (a := at__2) rfl rfl rfl ⟨rfl, rfl⟩ ⟨_, rfl, rfl⟩ (by decide) (by decide) rfl rfl (fun v96=>?_)))))));obtain ⟨hk97, h⟩ := chk_some h;refine TO.eff rfl rfl rfl (Eff.append_own (b := 8) (en := encI) (l := out) (l2 := [at__2]) (p := 1) (q := 0) ⟨rfl, rfl, rfl, ⟨_, rfl, rfl⟩, by decide, by decide⟩ rfl rfl rfl rfl rfl rfl (flat_ones _) (by decide) hk97) ?_;rintro v97 _ rfl;refine zG (_::_::_::C) rfl (zA R4 (zN (zT rfl (zM R4 (zM R4 ?_)))));obtain ⟨a100, hia100, ea100, h⟩ := el_some h;refine TO.fact (own_at (en := encI) (p := 2) rfl hia100) (fun hp=>?_);obtain ⟨ida100, ata100⟩ := hp;refine zV R3 (Val.iaddr_at (en := encI) ata100 ⟨rfl, rfl⟩ rfl rfl hia100) (zV R3 (Val.load_ownL (en := encI) (p := 2) (j := 0) rfl ata100 ⟨_, rfl, rfl⟩ rfl ea100 rfl) (zA R4 (zN ?_)));cases h;exact ⟨rfl, v97, (sb (pk [1,1,98] rfl))⟩
    refine zD rfl (zE ?_);cases h;exact ⟨ex_ne, ⟨rfl, v3, (sb .refl)⟩⟩
   ·rintro out v3 h;refine zU rfl (zM R4 (zA R4 (zN (zR ?_))));cases h;exact ⟨rfl, _, rfl, ⟨v3, rfl, (pk [0,98] rfl)⟩⟩
set_option maxRecDepth 10000 in
theorem tf_r4_Of {k : Nat} (hk : 3 ≤ k) {C : List Thing} {b_Signed : Int} {v_b_Gatherings : AV} {b_Gatherings : List Gat} {v_truth : AV} {truth : List Int} (h_b_Gatherings : Rdl C encG v_b_Gatherings b_Gatherings) (h_truth : Rdl C encI v_truth truth) {r : (List Int) × (List Int) × Int × (List Int) × (List Int) × (List Int) × Int} (h : P_r4_Of b_Signed b_Gatherings truth = some r) :
  TF (EL k) 21 [.agg [iv (b_Signed), v_b_Gatherings], v_truth] C (RepF (fun (w : AV × AV × AV × AV × AV) => .agg [w.1, w.2.1, iv r.2.2.1, w.2.2.1, w.2.2.2.1, w.2.2.2.2, iv r.2.2.2.2.2.2]) (fun (w : AV × AV × AV × AV × AV) => ownL false w.1 encI r.1 :: ownL true w.2.1 encI r.2.1 :: ownL true w.2.2.1 encI r.2.2.2.1 :: ownL true w.2.2.2.1 encI r.2.2.2.2.1 :: ownL true w.2.2.2.2 encI r.2.2.2.2.2.1 :: C)) := by
 unfold P_r4_Of at h;refine TF.enterG (fn := Go.Proofs.Tryz.f21) rfl rfl rfl rfl rfl (zU rfl (zQ 2 [_,_] R7 (fun b2=>zJ 7 [_,_,_,_,_,_,_] R7 (fun b4=>zN (zS (T.drawE (l1 := [0, 1, 3, 4, 7]) (l2 := [2, 5, 6, 8]) (by kernel_rfl) (by kernel_rfl) (TD1.floatN rfl rfl rfl rfl (New.buildSlice (en := encI) (l := ([] : List Int)) (vs := []) (ws := []) ⟨rfl, rfl⟩ rfl rfl rfl rfl CellsL.nil rfl rfl) (fun v11=>yL R4 (Val.move rfl) (yR R4 (vW 2 [_,_] R5 R4) (yL R4 (Val.move rfl) (TD1.floatN rfl rfl rfl rfl (New.alloc (k := 7) (cells := [_, _, _, _, _, _, _]) rfl rfl rfl rfl) (fun b5=>TD1.over (fun v => sameC_refl v) (all_cons (⟨_, rfl, (vW 3 [_,_] R5 R4)⟩) all_nil) (TD2.less (Less.floatOwn (en := encI) (l := ([] : List Int)) (p := 1) rfl) (yG (_::_::_::_::C) rfl ?_))))))))))))));obtain ⟨hk13, h⟩ := chk_some h;refine TD2.heavy (fun v => sameC_refl v) rfl (by decide) rfl rfl (OpS.eff (Eff.append_l (b := 8) (en := encI) (l := ([] : List Int)) (p := 1) ⟨rfl, rfl, rfl, ⟨_, rfl, rfl⟩, by decide, by decide⟩ rfl rfl rfl h_truth M4 rfl rfl (flat_ones _) (by decide) hk13)) ?_;rintro v13 _ rfl;refine ⟨(all_cons (.inr ⟨_, rfl, (vW 3 [_,_] R5 R4)⟩) all_nil), (all_cons (.inr (by repeat first | exact List.mem_cons_self | apply List.mem_cons_of_mem)) (all_cons (.inl (by kernel_rfl)) all_nil)), ?_⟩;refine yG (_::_::_::_::C) rfl ?_;obtain ⟨y16, hr16, h⟩ := andx_some h;refine TD2.heavy (fun v => sameC_refl v) rfl (by decide) rfl rfl (OpS.callV rfl rfl rfl rfl (orcN rfl) (RepF.conv (tf_r4_Gone aD (Rdl.mono h_b_Gatherings M4) (Rdl.mono h_truth M4) hr16))) ?_;rintro w16 _ ⟨w16, rfl, rfl⟩;refine ⟨(all_cons (.inl (by kernel_rfl)) all_nil), (all_cons (.inr (by repeat first | exact List.mem_cons_self | apply List.mem_cons_of_mem)) (all_cons (.inl (by kernel_rfl)) all_nil)), ?_⟩;refine yG (_::_::_::_::_::C) rfl (TD2.fact (own_cellS (p := 2) rfl) (fun hot3=>TD2.fact (own_cellS (p := 0) rfl) (fun hot5=>yM R4 (Val.buildC (cs := [_, _, _, _, _, _, _]) (vs := [(_, _), (_, _)]) (ws := [(_, [_]), (_, [_])]) rfl rfl (CellsL.cons hot3.1 (CellsL.cons hot5.1 CellsL.nil)) rfl) (TD2.less (Less.floatRow (p := 1) rfl) (yG (_::_::_::_::_::C) rfl (TD2.fact (own_cellS (p := 2) rfl) (fun hot3=>TD2.fact (own_cellS (p := 0) rfl) (fun hot5=>TD2.heavy (fun v => sameC_refl v) rfl (by decide) rfl rfl (OpS.eff (Eff.store_row (p := 1) (cv := [_, _, _, _, _, _, _]) (cells' := [_, _, _, _, _, _, _]) rfl rfl rfl rfl rfl rfl rfl rfl (by first | rfl | (simp [GS.one, hot3.2, hot5.2]; done) | (simp [GS.one, hot3.2, hot5.2]; (repeat' apply And.intro) <;> rfl)) (by decide) rfl)) ?_))))))));rintro _ _ rfl;refine ⟨(all_cons (.inl (by kernel_rfl)) all_nil), (all_cons (.inl (by kernel_rfl)) (all_cons (.inl (by kernel_rfl)) all_nil)), ?_⟩;refine yG (_::_::_::_::_::C) rfl (TD2.nil (zU rfl (zV R3 (vW 4 [_,_] R5 R4) (zF 1 R6 (zL 1 R3 R6 ?_)))));obtain ⟨y21, hr21, h⟩ := andx_some h;refine TO.callT (first := []) (cap := []) (vs := [.agg [iv (b_Signed), v_b_Gatherings], w16]) rfl rfl rfl rfl rfl rfl (orcN rfl) (tf_r4_Pieces aD (Rdl.mono h_b_Gatherings M5) (Rdl.mono (Rdl.own (C := ownL true w16 encI y16 :: .row b5 7 [v13, w16, iv (0), nilS, nilS, nilS, iv (0)] :: ownL false v13 encI (([] : List Int) ++ truth) :: .row b4 7 [nilS, nilS, iv (0), nilS, nilS, nilS, iv (0)] :: .row b2 2 [iv (b_Signed), v_b_Gatherings] :: C) (p := 0) rfl) mem0) hr21) ?_
 rintro _;refine zG (_::_::_::_::_::C) rfl (zF 2 R6 (TO.eff0 rfl rfl (Eff.store_row (p := 1) (cv := [_]) (cells' := [_, _, _, _, _, _, _]) rfl rfl rfl rfl rfl rfl rfl rfl aG (by decide) rfl) ?_));rintro _ rfl;refine zG (_::_::_::_::_::C) rfl (zN (zU rfl (zM R4 ?_)));obtain ⟨y24, hr24, h⟩ := andx_some h;obtain ⟨g, hgg, hrg⟩ := Rdl.reif (hs := ownL true w16 encI y16 :: .row b5 7 [v13, w16, iv (y21), nilS, nilS, nilS, iv (0)] :: ownL false v13 encI (([] : List Int) ++ truth) :: .row b4 7 [nilS, nilS, iv (0), nilS, nilS, nilS, iv (0)] :: .row b2 2 [iv (b_Signed), v_b_Gatherings] :: C) h_truth M5 (ReifL.flat encI_tr);refine TO.call rfl rfl rfl rfl rfl (orcL rfl aD) (.cons (hrg _) .nil) (sem_of (w_r4_Plain g _ (by try rw [hgg]; exact hr24))) (zA R4 (zN ?_))
 show T _ _ _ _ _ _;apply T.joinA (r := r) (W := AV × AV) (fun j w => ⟨[], [(1, v_truth), (2, .ptr b2 0 2), (4, .ptr b4 0 7), (5, .ptr b5 0 7)], ownL true w.1 encI j.1 :: ownL true w.2 encI j.2 :: ownL true w16 encI y16 :: .row b5 7 [v13, w16, iv (y21), w.1, w.2, nilS, iv (0)] :: ownL false v13 encI (([] : List Int) ++ truth) :: .row b4 7 [nilS, nilS, iv (0), nilS, nilS, nilS, iv (0)] :: .row b2 2 [iv (b_Signed), v_b_Gatherings] :: C⟩) h
 ·intro j h;refine zU rfl (zA R4 (zN (zB (T.nilown (u := encI.u) (T.nilown (u := encI.u) ?_)))))
  show T _ _ _ _ _ _;apply T.iter (r := j) (W := AV × AV) (fun j w => ⟨[], [(1, v_truth), (2, .ptr b2 0 2), (4, .ptr b4 0 7), (5, .ptr b5 0 7), (6, (GSo true encI y24).v), (7, iv (j.1))], ownL true w.1 encI j.2.1 :: ownL true w.2 encI j.2.2 :: ownL true w16 encI y16 :: .row b5 7 [v13, w16, iv (y21), w.1, w.2, nilS, iv (0)] :: ownL false v13 encI (([] : List Int) ++ truth) :: .row b4 7 [nilS, nilS, iv (0), nilS, nilS, nilS, iv (0)] :: .row b2 2 [iv (b_Signed), v_b_Gatherings] :: C⟩) (w0 := (nilS, nilS)) h
  ·exact (sb .refl)
  rintro ⟨i, f_Strange, f_Twice⟩ ⟨v7, v6⟩ a h;unfold P_r4_Of_L1 at h;dsimp only at h;dsimp only;refine zS (zU rfl (zM R4 (zM R4 (zV R3 (Val.len_l h_truth M7 rfl rfl) ?_))));obtain ⟨c28, hc28⟩ := zY (i < (truth.length : Int));refine zV R3 (Val.lss hc28 rfl rfl) (zN ?_);obtain ⟨rfl, hc28, h⟩ | ⟨rfl, hc28, h⟩ := zI hc28 h
  ·refine zC rfl (zK ?_)
   show T _ _ _ _ _ _;apply T.joinA (r := a) (W := AV × AV) (fun j w => ⟨[], [(1, v_truth), (2, .ptr b2 0 2), (4, .ptr b4 0 7), (5, .ptr b5 0 7), (6, (GSo true encI y24).v), (7, iv (i))], ownL true w.1 encI j.1 :: ownL true w.2 encI j.2 :: ownL true w16 encI y16 :: .row b5 7 [v13, w16, iv (y21), w.1, w.2, nilS, iv (0)] :: ownL false v13 encI (([] : List Int) ++ truth) :: .row b4 7 [nilS, nilS, iv (0), nilS, nilS, nilS, iv (0)] :: .row b2 2 [iv (b_Signed), v_b_Gatherings] :: C⟩) h
   ·intro j h;refine zB (zU rfl (zM R4 (zM R4 ?_)));obtain ⟨a33, hia33, ea33, h⟩ := el_some h;refine TO.fact (rdl_at h_truth M7 hia33 ea33) (fun hp=>?_);obtain ⟨pa33, hpa33, hva33⟩ := hp;refine zV R3 (hva33 ⟨rfl, rfl⟩ rfl rfl) (zV R3 (Val.load_e hpa33 M7 ⟨_, rfl, rfl⟩ rfl rfl) ?_);obtain ⟨c35, hc35⟩ := zY (a33 < 0);refine zV R3 (Val.lss hc35 rfl rfl) (zN ?_);obtain ⟨rfl, hc35, h⟩ | ⟨rfl, hc35, h⟩ := zI hc35 h
    ·refine zC rfl (zT rfl (zF 3 R6 (zL 3 R3 R6 (zM R4 (TO.build1 (en := encI) (a := i) rfl rfl rfl ⟨rfl, rfl⟩ ⟨_, rfl, rfl⟩ (by decide) (by decide) rfl rfl (fun v39=>?_))))));obtain ⟨hk40, h⟩ := chk_some h;refine TO.eff rfl rfl rfl (Eff.append_own (b := 8) (en := encI) (l := f_Strange) (l2 := [i]) (p := 1) (q := 0) ⟨rfl, rfl, rfl, ⟨_, rfl, rfl⟩, by decide, by decide⟩ rfl rfl rfl rfl rfl rfl (flat_ones _) (by decide) hk40) ?_;rintro v40 _ rfl;refine zG (_::_::_::_::_::_::_::_::C) rfl (zF 3 R6 (TO.fact (own_cellS (p := 1) rfl) (fun hot7=>TO.eff0 rfl rfl (Eff.store_row (p := 4) (cv := [_]) (cells' := [_, _, _, _, _, _, _]) rfl rfl rfl rfl rfl hot7.1 rfl rfl (by first | rfl | (simp [GS.one, hot7.2]; done)) (by decide) rfl) ?_)));rintro _ rfl;refine zG (_::_::_::_::_::_::_::_::C) rfl (zN ?_);cases h;exact ⟨rfl, (v40, v6), (sb (pk [1,1,1,1,1,1,1,98] rfl))⟩
    refine zD rfl (zU rfl (zM R4 (zM R4 ?_)));obtain ⟨has44, hr44, h⟩ := andx_some h;refine TO.call rfl rfl rfl rfl rfl (orcL rfl aD) (.cons .gs (.cons .lit .nil)) (sem_of (w_r1_Has (GSo true encI y24) i _ (by exact hr44))) (zV R3 (Val.not rfl) (zN ?_));obtain ⟨rfl, h⟩ | ⟨rfl, h⟩ := zZ h
    ·refine zD rfl (zK ?_);cases h;exact ⟨rfl, (v7, v6), (sb .refl)⟩
    refine zC rfl (zT rfl (zF 4 R6 (zL 3 R3 R6 (zM R4 (TO.build1 (en := encI) (a := i) rfl rfl rfl ⟨rfl, rfl⟩ ⟨_, rfl, rfl⟩ (by decide) (by decide) rfl rfl (fun v49=>?_))))));obtain ⟨hk50, h⟩ := chk_some h;refine TO.eff rfl rfl rfl (Eff.append_own (b := 8) (en := encI) (l := f_Twice) (l2 := [i]) (p := 2) (q := 0) ⟨rfl, rfl, rfl, ⟨_, rfl, rfl⟩, by decide, by decide⟩ rfl rfl rfl rfl rfl rfl (flat_ones _) (by decide) hk50) ?_;rintro v50 _ rfl;refine zG (_::_::_::_::_::_::_::_::C) rfl (zF 4 R6 (TO.fact (own_cellS (p := 2) rfl) (fun hot6=>TO.eff0 rfl rfl (Eff.store_row (p := 4) (cv := [_]) (cells' := [_, _, _, _, _, _, _]) rfl rfl rfl rfl rfl hot6.1 rfl rfl (by first | rfl | (simp [GS.one, hot6.2]; done)) (by decide) rfl) ?_)));rintro _ rfl;refine zG (_::_::_::_::_::_::_::_::C) rfl (zN ?_);cases h;exact ⟨rfl, (v7, v50), (sb (pk [1,1,1,1,1,1,1,98] rfl))⟩
   ·rintro ⟨f_Strange_2, f_Twice_2⟩ ⟨v7_2, v6_2⟩ h;dsimp only at h;dsimp only;refine zT rfl (zM R4 ?_);obtain ⟨hk30, h⟩ := chk_some h;refine zV R3 (Val.add rfl rfl hk30) (zA R4 (zN ?_));cases h;exact ⟨rfl, (v7_2, v6_2), (sb .refl)⟩
  refine zD rfl (zE ?_);cases h;exact ⟨ex_ne, ⟨rfl, (v7, v6), (sb .refl)⟩⟩
 ·rintro ⟨f_Strange, f_Twice⟩ ⟨v7, v6⟩ h;dsimp only at h;dsimp only;refine zU rfl (zV R3 (vW 6 [_,_] R5 R4) (zM R4 ?_));obtain ⟨y54, hr54, h⟩ := andx_some h;refine TO.callT (first := []) (cap := []) (vs := [.agg [iv (b_Signed), v_b_Gatherings], v_truth]) rfl rfl rfl rfl rfl rfl (orcN rfl) (tf_r4_Runs aD (Rdl.mono h_b_Gatherings M7) (Rdl.mono h_truth M7) hr54) ?_;rintro w54;refine zG (_::_::_::_::_::_::_::_::C) rfl (zA R4 (zN (zU rfl (zM R4 ?_))));obtain ⟨y56, hr56, h⟩ := andx_some h;refine TO.callT (first := []) (cap := []) (vs := [w54]) rfl rfl rfl rfl rfl rfl (orcN rfl) (tf_r4_Kept aD (Rdl.mono (Rdl.own (C := ownL true w54 enc_duodecimoref04_Run y54 :: ownL true v7 encI f_Strange :: ownL true v6 encI f_Twice :: ownL true w16 encI y16 :: .row b5 7 [v13, w16, iv (y21), v7, v6, nilS, iv (0)] :: ownL false v13 encI (([] : List Int) ++ truth) :: .row b4 7 [nilS, nilS, iv (0), nilS, nilS, nilS, iv (0)] :: .row b2 2 [iv (b_Signed), v_b_Gatherings] :: C) (p := 0) rfl) mem0) hr56) ?_;rintro w56;refine zG (_::_::_::_::_::_::_::_::_::C) rfl (zA R4 (zN ?_))
  show T _ _ _ _ _ _;apply T.joinA (r := r) (W := AV) (fun j w => ⟨[], [(4, .ptr b4 0 7), (5, .ptr b5 0 7)], ownL true w encI j :: ownL true w56 encI y56 :: ownL true w54 enc_duodecimoref04_Run y54 :: ownL true v7 encI f_Strange :: ownL true v6 encI f_Twice :: ownL true w16 encI y16 :: .row b5 7 [v13, w16, iv (y21), v7, v6, w, iv (0)] :: ownL false v13 encI (([] : List Int) ++ truth) :: .row b4 7 [nilS, nilS, iv (0), nilS, nilS, nilS, iv (0)] :: C⟩) h
  ·intro j h;refine zU rfl (zA R4 (zN (zB (T.nilown (u := encI.u) ?_))))
   show T _ _ _ _ _ _;apply T.iter (r := j) (W := AV) (fun j w => ⟨[], [(4, .ptr b4 0 7), (5, .ptr b5 0 7), (8, w54), (9, w56), (10, iv (j.1))], ownL true w encI j.2 :: ownL true w56 encI y56 :: ownL true w54 enc_duodecimoref04_Run y54 :: ownL true v7 encI f_Strange :: ownL true v6 encI f_Twice :: ownL true w16 encI y16 :: .row b5 7 [v13, w16, iv (y21), v7, v6, w, iv (0)] :: ownL false v13 encI (([] : List Int) ++ truth) :: .row b4 7 [nilS, nilS, iv (0), nilS, nilS, nilS, iv (0)] :: C⟩) (w0 := nilS) h
   ·exact (sb (pk [0,0,0,0,0,0,0,0,0,98] rfl))
   rintro ⟨i, f_Moved⟩ v12 a h;unfold P_r4_Of_L2 at h;dsimp only at h;dsimp only;refine zS (zU rfl (zM R4 (zM R4 (zV R3 (Val.len_own (p := 2) rfl rfl rfl) ?_))));obtain ⟨c60, hc60⟩ := zY (i < (y54.length : Int));refine zV R3 (Val.lss hc60 rfl rfl) (zN ?_);obtain ⟨rfl, hc60, h⟩ | ⟨rfl, hc60, h⟩ := zI hc60 h
   ·refine zC rfl (zK ?_)
    show T _ _ _ _ _ _;apply T.joinA (r := a) (W := AV) (fun j w => ⟨[], [(4, .ptr b4 0 7), (5, .ptr b5 0 7), (8, w54), (9, w56), (10, iv (i))], ownL true w encI j :: ownL true w56 encI y56 :: ownL true w54 enc_duodecimoref04_Run y54 :: ownL true v7 encI f_Strange :: ownL true v6 encI f_Twice :: ownL true w16 encI y16 :: .row b5 7 [v13, w16, iv (y21), v7, v6, w, iv (0)] :: ownL false v13 encI (([] : List Int) ++ truth) :: .row b4 7 [nilS, nilS, iv (0), nilS, nilS, nilS, iv (0)] :: C⟩) h
    ·intro j h;refine zB (zU rfl (zM R4 (zM R4 ?_)));obtain ⟨has65, hr65, h⟩ := andx_some h;refine TO.call rfl rfl rfl rfl rfl (orcL rfl aD) (.cons (.ownL (p := 1) rfl ((ReifL.flat encI_tr) _ _)) (.cons .lit .nil)) (sem_of (w_r1_Has (GSo true encI y56) i _ (by exact hr65))) (zV R3 (Val.not rfl) (zN ?_));obtain ⟨rfl, h⟩ | ⟨rfl, h⟩ := zZ h
     ·refine zD rfl (zK ?_);cases h;exact ⟨rfl, v12, (sb .refl)⟩
     refine zC rfl (T.drawE (l1 := [0, 1, 2, 3, 4, 5, 6, 7]) (l2 := [8, 9, 10]) (by kernel_rfl) (by kernel_rfl) (yL R4 (Val.faddr_ptr (fo := 5) rfl rfl rfl) (yR R4 (vR (p := 6) R6) (yL R4 (Val.move rfl) (yL R4 (Val.move rfl) ?_)))));obtain ⟨a71, hia71, ea71, h⟩ := el_some h;refine TD1.fact (own_at (en := enc_duodecimoref04_Run) (p := 2) rfl hia71) (fun hp=>?_);obtain ⟨ida71, ata71⟩ := hp;refine yL R4 (Val.iaddr_at (en := enc_duodecimoref04_Run) ata71 ⟨rfl, rfl⟩ rfl rfl hia71) (yL R4 (Val.faddr_ptr_ rfl rfl) (yR R4 (Val.load_ownL (en := enc_duodecimoref04_Run) (p := 2) (j := 0) rfl ata71 ⟨_, rfl, rfl⟩ rfl ea71 rfl) (TD1.floatN rfl rfl rfl rfl (New.buildSlice (en := encI) (l := [a71.item]) (vs := [(_, _)]) (ws := [(_, [_])]) ⟨rfl, rfl⟩ rfl rfl rfl rfl (CellsL.cons rfl CellsL.nil) rfl rfl) (fun v74=>TD1.over (fun v => sameC_refl v) (all_cons (⟨_, rfl, (Val.load_ownL (en := enc_duodecimoref04_Run) (p := 3) (j := 0) rfl ata71 ⟨_, rfl, rfl⟩ rfl ea71 rfl)⟩) (all_cons (⟨_, rfl, (vR (p := 7) R6)⟩) all_nil)) (TD2.less (Less.floatOwn (en := encI) (l := [a71.item]) (p := 0) rfl) (yG (_::_::_::_::_::_::_::_::_::_::C) rfl ?_))))));obtain ⟨hk75, h⟩ := chk_some h;refine TD2.heavy (fun v => sameC_refl v) rfl (by decide) rfl rfl (OpS.eff (Eff.append_own (b := 8) (en := encI) (l := f_Moved) (l2 := [a71.item]) (p := 1) (q := 0) ⟨rfl, rfl, rfl, ⟨_, rfl, rfl⟩, by decide, by decide⟩ rfl rfl rfl rfl rfl rfl (flat_ones _) (by decide) hk75)) ?_;rintro v75 _ rfl;refine ⟨(all_cons (.inl (by kernel_rfl)) (all_cons (.inl (by kernel_rfl)) all_nil)), (all_cons (.inl (by kernel_rfl)) all_nil), ?_⟩;refine yG (_::_::_::_::_::_::_::_::_::_::C) rfl (yM R4 (Val.faddr_ptr (fo := 5) rfl rfl rfl) (TD2.fact (own_cellS (p := 1) rfl) (fun hot12=>TD2.heavy (fun v => sameC_refl v) rfl (by decide) rfl rfl (OpS.eff (Eff.store_row (p := 7) (cv := [_]) (cells' := [_, _, _, _, _, _, _]) rfl rfl rfl rfl rfl hot12.1 rfl rfl (by first | rfl | (simp [GS.one, hot12.2]; done)) (by decide) rfl)) ?_)));rintro _ _ rfl;refine ⟨(all_cons (.inl (by kernel_rfl)) (all_cons (.inl (by kernel_rfl)) all_nil)), (all_cons (.inl (by kernel_rfl)) all_nil), ?_⟩;refine yG (_::_::_::_::_::_::_::_::_::_::C) rfl (TD2.nil ?_);cases h;exact ⟨rfl, v75, (sb (pk [1,1,1,1,1,1,1,1,1,98] rfl))⟩
    ·rintro f_Moved_2 v12_2 h;refine zT rfl (zM R4 ?_);obtain ⟨hk62, h⟩ := chk_some h;refine zV R3 (Val.add rfl rfl hk62) (zA R4 (zN ?_));cases h;exact ⟨rfl, v12_2, (sb .refl)⟩
   refine zD rfl (zE ?_);cases h;exact ⟨ex_ne, ⟨rfl, v12, (sb .refl)⟩⟩
  ·rintro f_Moved v12 h;refine zU rfl (zF 2 R6 (zL 6 R3 R6 (zF 3 R6 (zL 6 R3 R6 (zV R3 (Val.len_own (p := 3) rfl rfl rfl) ?_)))));obtain ⟨hk82, h⟩ := chk_some h;refine zV R3 (Val.add rfl rfl hk82) (zF 4 R6 (zL 6 R3 R6 (zV R3 (Val.len_own (p := 4) rfl rfl rfl) ?_)));obtain ⟨hk86, h⟩ := chk_some h;refine zV R3 (Val.add rfl rfl hk86) (zF 5 R6 (zL 6 R3 R6 (zV R3 (Val.len_own (p := 0) rfl rfl rfl) ?_)));obtain ⟨hk90, h⟩ := chk_some h;refine zV R3 (Val.add rfl rfl hk90) (zF 6 R6 (TO.eff0 rfl rfl (Eff.store_row (p := 6) (cv := [_]) (cells' := [_, _, _, _, _, _, _]) rfl rfl rfl rfl rfl rfl rfl rfl aG (by decide) rfl) ?_));rintro _ rfl;refine zG (_::_::_::_::_::_::_::_::_::C) rfl (zN (zU rfl (zV R3 (vW 6 [_,_,_,_,_,_,_] R5 R4) (TO.fact (own_cellS (p := 7) rfl) (fun hot3=>TO.fact (own_cellS (p := 5) rfl) (fun hot5=>TO.fact (own_cellS (p := 3) rfl) (fun hot7=>TO.fact (own_cellS (p := 4) rfl) (fun hot6=>TO.fact (own_cellS (p := 0) rfl) (fun hot12=>TO.eff0 rfl rfl (Eff.store_row (p := 8) (cv := [_, _, _, _, _, _, _]) (cells' := [_, _, _, _, _, _, _]) rfl rfl rfl rfl rfl rfl rfl rfl (by first | rfl | (simp [GS.one, hot3.2, hot5.2, hot7.2, hot6.2, hot12.2]; done) | (simp [GS.one, hot3.2, hot5.2, hot7.2, hot6.2, hot12.2]; (repeat' apply And.intro) <;> rfl)) (by decide) rfl) ?_)))))))));rintro _ rfl;refine zG (_::_::_::_::_::_::_::_::_::C) rfl (zN (zR ?_));cases h;exact ⟨rfl, _, rfl, [_], ⟨⟨_, rfl, LoadR.rows (p := 8) (c := [_, _, _, _, _, _, _]) rfl ⟨⟨_, rfl, rfl⟩, rfl, by decide⟩ rfl rfl rfl⟩, trivial⟩, ⟨(v13, w16, v7, v6, v12), rfl, (pk [7,5,3,3,0,98,98,98,98] rfl)⟩⟩
set_option maxRecDepth 10000 in
theorem tf_c_there {k : Nat} (hk : 0 ≤ k) {C : List Thing} {id_x : Nat} {x_CpCase_Book_Signed : Int} {v_x_CpCase_Book_Gatherings : AV} {x_CpCase_Book_Gatherings : List Gat} {v_x_CpCase_Items : AV} {x_CpCase_Items : List Item} {v_x_leaves : AV} {x_leaves : List Leaf} {v_x_mates : AV} {x_mates : List Int} {v_t : AV} {t : List Int} (h_x_CpCase_Book_Gatherings : Rdl C encG v_x_CpCase_Book_Gatherings x_CpCase_Book_Gatherings) (h_x_CpCase_Items : Rdl C encIt v_x_CpCase_Items x_CpCase_Items) (h_x_leaves : Rdl C encL v_x_leaves x_leaves) (h_x_mates : Rdl C encI v_x_mates x_mates) (h_x : Thing.row id_x 5 [iv (x_CpCase_Book_Signed), v_x_CpCase_Book_Gatherings, v_x_CpCase_Items, v_x_leaves, v_x_mates] ∈ C) (h_t : Rdl C encI v_t t) {r : (Int → Int)} (h : P_c_there x_CpCase_Book_Signed x_CpCase_Book_Gatherings x_CpCase_Items x_leaves x_mates t = some r) :
  TF (EL k) 64 [.ptr id_x 0 5, v_t] C (RepF (fun (w : Nat) => .map w) (fun (w : Nat) => .cnt w KInt (cntI r) [] :: C)) := by
 unfold P_c_there at h;refine TF.enter (fn := Go.Proofs.Tryz.f64) rfl rfl rfl rfl rfl (zU rfl (zA R4 (zN (zU rfl (TO.makeMapI rfl rfl rfl (fun m8=>zA R4 (zN ?_)))))))
 show T _ _ _ _ _ _;apply T.joinA (r := r) (W := Unit) (fun j w => ⟨[], [(5, .map m8)], .cnt m8 KInt (cntI j) [] :: C⟩) h
 ·intro j h;refine zU rfl (zM R4 (zV R3 (Val.len_l h_t M1 rfl rfl) (zM R4 (zN (zB ?_)))))
  show T _ _ _ _ _ _;apply T.iter (r := j) (W := Unit) (fun j w => ⟨[], [(5, .map m8), (9, v_t), (10, iv ((t.length : Int))), (11, iv (j.1))], .cnt m8 KInt (cntI j.2) [] :: C⟩) (w0 := ()) h
  ·exact (sb .refl)
  rintro ⟨x11, m⟩ _ a h;unfold P_c_there_L1 at h;dsimp only at h;dsimp only;refine zU rfl ?_;obtain ⟨c12, hc12⟩ := zY (x11 < (t.length : Int));refine zV R3 (Val.lss hc12 rfl rfl) (zN (zS ?_));obtain ⟨rfl, hc12, h⟩ | ⟨rfl, hc12, h⟩ := zI hc12 h
  ·refine zC rfl (zK (zS (zB (zU rfl ?_))));obtain ⟨a13, hia13, ea13, h⟩ := el_some h;refine TO.fact (rdl_at h_t M1 hia13 ea13) (fun hp=>?_);obtain ⟨pa13, hpa13, hva13⟩ := hp;refine zV R3 (hva13 ⟨rfl, rfl⟩ rfl rfl) (zV R3 (Val.load_e hpa13 M1 ⟨_, rfl, rfl⟩ rfl rfl) (zA R4 (zN (zT rfl (zM R4 (zM R4 (zV R3 (Val.lookupI (p := 0) rfl rfl key_ty3 rfl rfl rfl) ?_)))))));obtain ⟨hk18, h⟩ := chk_some h;refine zV R3 (Val.add rfl rfl hk18) (TO.eff0 rfl rfl (Eff.mapUpdateI (p := 0) rfl rfl key_ty3 rfl rfl rfl) ?_);rintro _ rfl;refine zG (_::C) rfl (zN (zT rfl ?_));obtain ⟨hk19, h⟩ := chk_some h;refine zV R3 (Val.add rfl rfl hk19) (zM R4 (zN ?_));cases h;exact ⟨rfl, (), (sb .refl)⟩
  refine zD rfl (zE ?_);cases h;exact ⟨ex_ne, ⟨rfl, (), (sb .refl)⟩⟩
 ·rintro m _ h;refine zU rfl (zM R4 (zA R4 (zN (zR ?_))));cases h;exact ⟨rfl, _, rfl, ⟨m8, rfl, .refl⟩⟩
set_option maxRecDepth 10000 in
theorem tf_c_lost {k : Nat} (hk : 0 ≤ k) {C : List Thing} {id_x : Nat} {x_CpCase_Book_Signed : Int} {v_x_CpCase_Book_Gatherings : AV} {x_CpCase_Book_Gatherings : List Gat} {v_x_CpCase_Items : AV} {x_CpCase_Items : List Item} {v_x_leaves : AV} {x_leaves : List Leaf} {v_x_mates : AV} {x_mates : List Int} {v_t : AV} {t : List Int} (h_x_CpCase_Book_Gatherings : Rdl C encG v_x_CpCase_Book_Gatherings x_CpCase_Book_Gatherings) (h_x_CpCase_Items : Rdl C encIt v_x_CpCase_Items x_CpCase_Items) (h_x_leaves : Rdl C encL v_x_leaves x_leaves) (h_x_mates : Rdl C encI v_x_mates x_mates) (h_x : Thing.row id_x 5 [iv (x_CpCase_Book_Signed), v_x_CpCase_Book_Gatherings, v_x_CpCase_Items, v_x_leaves, v_x_mates] ∈ C) (h_t : Rdl C encI v_t t) {r : (List Int)} (h : P_c_lost x_CpCase_Book_Signed x_CpCase_Book_Gatherings x_CpCase_Items x_leaves x_mates t = some r) :
  TF (EL k) 35 [.ptr id_x 0 5, v_t] C (RepF (fun (w : AV) => w) (fun (w : AV) => ownL true w encI r :: C)) := by
 unfold P_c_lost at h;refine TF.enter (fn := Go.Proofs.Tryz.f35) rfl rfl rfl rfl rfl (zU rfl (zA R4 (zN (zU rfl (zM R4 (zM R4 ?_))))));obtain ⟨y9, hr9, h⟩ := andx_some h;refine TO.callT (first := []) (cap := []) (vs := [.ptr id_x 0 5, v_t]) rfl rfl rfl rfl rfl rfl (orcN rfl) (tf_c_there aD (Rdl.mono h_x_CpCase_Book_Gatherings mem0) (Rdl.mono h_x_CpCase_Items mem0) (Rdl.mono h_x_leaves mem0) (Rdl.mono h_x_mates mem0) (mem0 _ h_x) (Rdl.mono h_t mem0) hr9) ?_;rintro w9;refine zG (_::C) rfl (zA R4 (zN ?_))
 show T _ _ _ _ _ _;apply T.joinA (r := r) (W := AV) (fun j w => ⟨[], [(4, w)], ownL true w encI j :: .cnt w9 KInt (cntI y9) [] :: C⟩) h
 ·intro j h;refine zU rfl (zM R4 (zV R3 (Val.nil_ptr rfl) (zF 3 R6 (zV R3 (Val.load_rowM h_x M1 ⟨_, rfl, rfl⟩ rfl rfl rfl) (zV R3 (Val.len_l h_x_leaves M1 rfl rfl) (zM R4 (zN (zB (T.nilown (u := encI.u) ?_)))))))))
  show T _ _ _ _ _ _;apply T.iter (r := j) (W := AV) (fun j w => ⟨[], [(4, w), (5, .map w9), (14, iv ((x_leaves.length : Int))), (15, iv (j.1))], ownL true w encI j.2 :: .cnt w9 KInt (cntI y9) [] :: C⟩) (w0 := nilS) h
  ·exact (sb .refl)
  rintro ⟨x15, l⟩ v2 a h;unfold P_c_lost_L1 at h;dsimp only at h;dsimp only;refine zU rfl ?_;obtain ⟨c16, hc16⟩ := zY (x15 < (x_leaves.length : Int));refine zV R3 (Val.lss hc16 rfl rfl) (zN (zS ?_));obtain ⟨rfl, hc16, h⟩ | ⟨rfl, hc16, h⟩ := zI hc16 h
  ·refine zC rfl (zK ?_)
   show T _ _ _ _ _ _;apply T.joinA (r := a) (W := AV) (fun j w => ⟨[], [(4, w), (5, .map w9), (14, iv ((x_leaves.length : Int))), (15, iv (x15))], ownL true w encI j :: .cnt w9 KInt (cntI y9) [] :: C⟩) h
   ·intro j h;refine zB (zU rfl (zM R4 (zA R4 (zN (zU rfl (zM R4 (zM R4 (zV R3 (Val.lookupI (p := 1) rfl rfl key_ty3 rfl rfl rfl) ?_))))))));obtain ⟨c21, hc21⟩ := zY ((y9 x15) = 0);refine zV R3 (Val.eql hc21 rfl rfl) (zN ?_);obtain ⟨rfl, hc21, h⟩ | ⟨rfl, hc21, h⟩ := zI hc21 h
    ·refine zC rfl (zT rfl (zM R4 (zM R4 (TO.build1 (en := encI) (a := x15) rfl rfl rfl ⟨rfl, rfl⟩ ⟨_, rfl, rfl⟩ (by decide) (by decide) rfl rfl (fun v24=>?_)))));obtain ⟨hk25, h⟩ := chk_some h;refine TO.eff rfl rfl rfl (Eff.append_own (b := 8) (en := encI) (l := l) (l2 := [x15]) (p := 1) (q := 0) ⟨rfl, rfl, rfl, ⟨_, rfl, rfl⟩, by decide, by decide⟩ rfl rfl rfl rfl rfl rfl (flat_ones _) (by decide) hk25) ?_;rintro v25 _ rfl;refine zG (_::_::_::C) rfl (zA R4 (zN ?_));cases h;exact ⟨rfl, v25, (sb (pk [1,1,98] rfl))⟩
    refine zD rfl (zK ?_);cases h;exact ⟨rfl, v2, (sb .refl)⟩
   ·rintro l_2 v2_2 h;refine zT rfl ?_;obtain ⟨hk26, h⟩ := chk_some h;refine zV R3 (Val.add rfl rfl hk26) (zM R4 (zN ?_));cases h;exact ⟨rfl, v2_2, (sb .refl)⟩
  refine zD rfl (zE ?_);cases h;exact ⟨ex_ne, ⟨rfl, v2, (sb .refl)⟩⟩
 ·rintro l v2 h;refine zU rfl (zM R4 (zA R4 (zN (zR ?_))));cases h;exact ⟨rfl, _, rfl, ⟨v2, rfl, (pk [0,98] rfl)⟩⟩
set_option maxRecDepth 10000 in
theorem tf_c_moved {k : Nat} (hk : 0 ≤ k) {C : List Thing} {v_l : AV} {l : List S_copy_run} (h_l : Rdl C enc_copy_run v_l l) {r : (List Int)} (h : P_c_moved l = some r) :
  TF (EL k) 76 [v_l] C (RepF (fun (w : AV) => w) (fun (w : AV) => ownL true w encI r :: C)) := by
 unfold P_c_moved at h;refine TF.enter (fn := Go.Proofs.Tryz.f76) rfl rfl rfl rfl rfl (zU rfl (zA R4 (zN (zU rfl (TO.allocA (en := encI) 0 120 rfl rfl rfl rfl (by kernel_rfl) rfl rfl (fun b3=>zN (zU rfl (zA R4 (zN ?_)))))))))
 show T _ _ _ _ _ _;apply T.joinA (r := r) (W := Unit) (fun j w => ⟨[], [(0, v_l), (2, nilS), (3, .ptr b3 0 120), (4, iv (j.1))], arrL b3 encI j.2 :: C⟩) h
 ·intro j h;refine zU rfl (zM R4 (zV R3 (Val.len_l h_l M1 rfl rfl) ?_));obtain ⟨hk12, h⟩ := chk_some h;refine zV R3 (Val.sub rfl rfl hk12) (zA R4 (zN (zB ?_)))
  show T _ _ _ _ _ _;apply T.iter (r := j) (W := Unit) (fun j w => ⟨[], [(0, v_l), (2, nilS), (3, .ptr b3 0 120), (4, iv (j.1)), (5, iv (j.2.1))], arrL b3 encI j.2.2 :: C⟩) (w0 := ()) h
  ·exact (sb .refl)
  rintro ⟨best, i, many⟩ _ a h;unfold P_c_moved_L1 at h;dsimp only at h;dsimp only;refine zS (zU rfl (zM R4 ?_));obtain ⟨c14, hc14⟩ := zY (i ≥ 0);refine zV R3 (Val.geq hc14 rfl rfl) (zN ?_);obtain ⟨rfl, hc14, h⟩ | ⟨rfl, hc14, h⟩ := zI hc14 h
  ·refine zC rfl (zK ?_)
   show T _ _ _ _ _ _;apply T.joinA (r := a) (W := Unit) (fun j w => ⟨[], [(0, v_l), (2, nilS), (3, .ptr b3 0 120), (4, iv (j.1)), (5, iv (i))], arrL b3 encI j.2 :: C⟩) h
   ·intro j h;refine zB ?_
    show T _ _ _ _ _ _;apply T.joinA (r := j) (W := Unit) (fun j w => ⟨[], [(0, v_l), (2, nilS), (3, .ptr b3 0 120), (4, iv (best)), (5, iv (i))], arrL b3 encI j :: C⟩) h
    ·intro j h;refine zU rfl (zM R4 ?_);obtain ⟨hk18, h⟩ := chk_some h;refine zV R3 (Val.add rfl rfl hk18) (zA R4 (zN (zB ?_)))
     show T _ _ _ _ _ _;apply T.iter (r := j) (W := Unit) (fun j w => ⟨[], [(0, v_l), (2, nilS), (3, .ptr b3 0 120), (4, iv (best)), (5, iv (i)), (6, iv (j.1))], arrL b3 encI j.2 :: C⟩) (w0 := ()) h
     ·exact (sb .refl)
     rintro ⟨k_, many_2⟩ _ a h;unfold P_c_moved_L2 at h;dsimp only at h;dsimp only;refine zS (zU rfl (zM R4 (zM R4 (zV R3 (Val.len_l h_l M1 rfl rfl) ?_))));obtain ⟨c22, hc22⟩ := zY (k_ < (l.length : Int));refine zV R3 (Val.lss hc22 rfl rfl) (zN ?_);obtain ⟨rfl, hc22, h⟩ | ⟨rfl, hc22, h⟩ := zI hc22 h
     ·refine zC rfl (zK ?_)
      show T _ _ _ _ _ _;apply T.joinA (r := a) (W := Unit) (fun j w => ⟨[], [(0, v_l), (2, nilS), (3, .ptr b3 0 120), (4, iv (best)), (5, iv (i)), (6, iv (k_))], arrL b3 encI j :: C⟩) h
      ·intro j h;refine zB (zS (T.draw (fun v => sameC_refl v) (l1 := [0, 1, 2, 3, 4, 5, 6, 7, 8, 9, 10]) (l2 := []) (by kernel_rfl) (by kernel_rfl) (zM R4 (zM R4 ?_))));obtain ⟨a27, hia27, ea27, h⟩ := el_some h;refine TO.fact (rdl_at h_l M1 hia27 ea27) (fun hp=>?_);obtain ⟨pa27, hpa27, hva27⟩ := hp;refine zV R3 (hva27 ⟨rfl, rfl⟩ rfl rfl) (zV R3 (Val.faddr_e (fo := 1) hpa27 rfl rfl rfl) (zV R3 (Val.load_e (PtE.add hpa27 (by decide)) M1 ⟨_, rfl, rfl⟩ rfl rfl) (zM R4 (zM R4 ?_))));obtain ⟨a32, hia32, ea32, h⟩ := el_some h;refine TO.fact (rdl_at h_l M1 hia32 ea32) (fun hp=>?_);obtain ⟨pa32, hpa32, hva32⟩ := hp;refine zV R3 (hva32 ⟨rfl, rfl⟩ rfl rfl) (zV R3 (Val.faddr_e (fo := 2) hpa32 rfl rfl rfl) (zV R3 (Val.load_e (PtE.add hpa32 (by decide)) M1 ⟨_, rfl, rfl⟩ rfl rfl) ?_));obtain ⟨c35, hc35⟩ := zY (a27.first > a32.last);refine zV R3 (Val.gtr hc35 rfl rfl) (zN ?_);obtain ⟨rfl, hc35, h⟩ | ⟨rfl, hc35, h⟩ := zI hc35 h
       ·refine zC rfl (T.drawE (l1 := [0, 1, 2, 3, 4, 5, 6]) (l2 := [7, 8, 9]) (by kernel_rfl) (by kernel_rfl) (yL R4 (Val.move rfl) (yL R4 (Val.move rfl) ?_)));obtain ⟨hk38, h⟩ := chk_some h;obtain ⟨a38, hia38, ea38, h⟩ := el_some h;refine yL R4 (Val.iaddr_array (m := 120) rfl rfl rfl rfl aO) (yR R4 (Val.load_arr (en := encI) (p := 0) (j := 0) rfl hk38 ⟨_, rfl, rfl⟩ rfl ea38 rfl) (yL R4 (Val.move rfl) ?_));obtain ⟨hk41, h⟩ := chk_some h;obtain ⟨a41, hia41, ea41, h⟩ := el_some h;refine yL R4 (Val.iaddr_array (m := 120) rfl rfl rfl rfl aO) (yR R4 (Val.load_arr (en := encI) (p := 0) (j := 0) rfl hk41 ⟨_, rfl, rfl⟩ rfl ea41 rfl) (TD1.over (fun v => sameC_refl v) (all_cons (⟨_, rfl, (Val.load_arr (en := encI) (p := 0) (j := 0) rfl hk41 ⟨_, rfl, rfl⟩ rfl ea41 rfl)⟩) (all_cons (⟨_, rfl, (Val.load_arr (en := encI) (p := 0) (j := 0) rfl hk38 ⟨_, rfl, rfl⟩ rfl ea38 rfl)⟩) all_nil)) (TD2.heavy (fun v => sameC_refl v) rfl (by decide) rfl rfl (OpS.eff (Eff.val (Val.bmax rfl rfl))) ?_)));rintro _ _ ⟨rfl, rfl⟩;refine ⟨(all_cons (.inl (by kernel_rfl)) (all_cons (.inl (by kernel_rfl)) all_nil)), all_nil, ?_⟩;obtain ⟨hk44, h⟩ := chk_some h;obtain ⟨a44, hia44, ea44, h⟩ := el_some h;refine yM R4 (Val.iaddr_array (m := 120) rfl rfl rfl rfl aO) (TD2.heavy (fun v => sameC_refl v) rfl (by decide) rfl rfl (OpS.eff (Eff.store_arr (en := encI) (p := 0) (a := a44) (a' := (max a38 a41)) (j := 0) (cv := [_]) rfl hk44 ea44 rfl rfl (by decide) rfl rfl rfl rfl aG rfl)) ?_);rintro _ _ rfl;refine ⟨(all_cons (.inl (by kernel_rfl)) (all_cons (.inl (by kernel_rfl)) all_nil)), all_nil, ?_⟩;refine yG (_::C) rfl (TD2.nil ?_);cases h;exact ⟨rfl, (), (sb .refl)⟩
       refine zD rfl (zK ?_);cases h;exact ⟨rfl, (), (sb .refl)⟩
      ·rintro many_3 _ h;refine zT rfl (zM R4 ?_);obtain ⟨hk24, h⟩ := chk_some h;refine zV R3 (Val.add rfl rfl hk24) (zA R4 (zN ?_));cases h;exact ⟨rfl, (), (sb .refl)⟩
     refine zD rfl (zE ?_);cases h;exact ⟨ex_ne, ⟨rfl, (), (sb .refl)⟩⟩
    ·rintro many_2 _ h;refine zU rfl (zM R4 ?_);obtain ⟨hk46, h⟩ := chk_some h;obtain ⟨a46, hia46, ea46, h⟩ := el_some h;refine zV R3 (Val.iaddr_array (m := 120) rfl rfl rfl rfl aO) (zV R3 (Val.load_arr (en := encI) (p := 0) (j := 0) rfl hk46 ⟨_, rfl, rfl⟩ rfl ea46 rfl) ?_);obtain ⟨hk48, h⟩ := chk_some h;refine zV R3 (Val.add rfl rfl hk48) ?_;obtain ⟨hk49, h⟩ := chk_some h;obtain ⟨a49, hia49, ea49, h⟩ := el_some h;refine zV R3 (Val.iaddr_array (m := 120) rfl rfl rfl rfl aO) (TO.eff0 rfl rfl (Eff.store_arr (en := encI) (p := 0) (a := a49) (a' := (a46 + 1)) (j := 0) (cv := [_]) rfl hk49 ea49 rfl rfl (by decide) rfl rfl rfl rfl aG rfl) ?_);rintro _ rfl;refine zG (_::C) rfl (zN (zT rfl (zM R4 (zM R4 ?_))));obtain ⟨hk52, h⟩ := chk_some h;obtain ⟨a52, hia52, ea52, h⟩ := el_some h;refine zV R3 (Val.iaddr_array (m := 120) rfl rfl rfl rfl aO) (zV R3 (Val.load_arr (en := encI) (p := 0) (j := 0) rfl hk52 ⟨_, rfl, rfl⟩ rfl ea52 rfl) (zV R3 (Val.bmax rfl rfl) (zA R4 (zN ?_))));cases h;exact ⟨rfl, (), (sb .refl)⟩
   ·rintro ⟨best_2, many_2⟩ _ h;dsimp only at h;dsimp only;refine zT rfl (zM R4 ?_);obtain ⟨hk16, h⟩ := chk_some h;refine zV R3 (Val.sub rfl rfl hk16) (zA R4 (zN ?_));cases h;exact ⟨rfl, (), (sb .refl)⟩
  refine zD rfl (zE ?_);cases h;exact ⟨ex_ne, ⟨rfl, (), (sb .refl)⟩⟩
 ·rintro ⟨best, many⟩ _ h;dsimp only at h;dsimp only;refine zU rfl (zV R3 (Val.buildC (cs := [_, _, _]) (vs := [(_, _), (_, _), (_, _)]) (ws := [(_, [_]), (_, [_]), (_, [_])]) rfl rfl (CellsL.cons rfl (CellsL.cons rfl (CellsL.cons rfl CellsL.nil))) rfl) (zJ 3 [_,_,_] R7 (fun b7=>TO.eff0 rfl rfl (Eff.store_row (p := 0) (cv := [_, _, _]) (cells' := [_, _, _]) rfl rfl rfl rfl rfl rfl rfl rfl aG (by decide) rfl) ?_)));rintro _ rfl;refine zG (_::_::C) rfl (zN ?_)
  show T _ _ _ _ _ _;apply T.joinA (r := r) (W := AV) (fun j w => ⟨[], [(2, w)], ownL true w encI j.2.2.2 :: .row b7 3 [iv (j.1), iv (j.2.1), iv (j.2.2.1)] :: arrL b3 encI many :: C⟩) h
  ·intro j h;refine zU rfl (zM R4 (zV R3 (Val.len_l h_l M2 rfl rfl) (zM R4 (zN (zB (T.nilown (u := encI.u) ?_))))))
   show T _ _ _ _ _ _;apply T.iter (r := j) (W := AV) (fun j w => ⟨[], [(2, w), (3, .ptr b3 0 120), (4, iv (j.1)), (7, .ptr b7 0 3), (56, v_l), (57, iv ((l.length : Int))), (58, iv (j.2.1))], ownL true w encI j.2.2.1 :: .row b7 3 [iv (j.2.2.2.1), iv (j.2.2.2.2.1), iv (j.2.2.2.2.2)] :: arrL b3 encI many :: C⟩) (w0 := nilS) h
   ·exact (sb .refl)
   rintro ⟨best_2, x58, items, last_item, last_first, last_last⟩ v3 a h;unfold P_c_moved_L3 at h;dsimp only at h;dsimp only;refine zU rfl ?_;obtain ⟨c59, hc59⟩ := zY (x58 < (l.length : Int));refine zV R3 (Val.lss hc59 rfl rfl) (zN (zS ?_));obtain ⟨rfl, hc59, h⟩ | ⟨rfl, hc59, h⟩ := zI hc59 h
   ·refine zC rfl (zK ?_)
    show T _ _ _ _ _ _;apply T.joinA (r := a) (W := AV) (fun j w => ⟨[], [(2, w), (3, .ptr b3 0 120), (4, iv (j.1)), (7, .ptr b7 0 3), (56, v_l), (57, iv ((l.length : Int))), (58, iv (x58))], ownL true w encI j.2.1 :: .row b7 3 [iv (j.2.2.1), iv (j.2.2.2.1), iv (j.2.2.2.2)] :: arrL b3 encI many :: C⟩) h
    ·intro j h;refine zB (zU rfl (zM R4 ?_));obtain ⟨a61, hia61, ea61, h⟩ := el_some h;refine TO.fact (rdl_at h_l M3 hia61 ea61) (fun hp=>?_);obtain ⟨pa61, hpa61, hva61⟩ := hp;refine zV R3 (hva61 ⟨rfl, rfl⟩ rfl rfl) (zV R3 (Val.load_es (c := [_, _, _]) hpa61 M3 ⟨⟨_, rfl, rfl⟩, rfl, by decide⟩ rfl rfl rfl) (zJ 3 [_,_,_] R7 (fun b9=>zA R4 (TO.eff0 rfl rfl (Eff.store_row (p := 0) (cv := [_, _, _]) (cells' := [_, _, _]) rfl rfl rfl rfl rfl rfl rfl rfl aG (by decide) rfl) ?_))));rintro _ rfl;refine zG (_::_::_::_::C) rfl (zN ?_)
     show T _ _ _ _ _ _;apply T.joinA (r := j) (W := Unit) (fun j w => ⟨[], [(2, v3), (3, .ptr b3 0 120), (4, iv (best_2)), (7, .ptr b7 0 3), (9, .ptr b9 0 3), (56, v_l), (57, iv ((l.length : Int))), (58, iv (x58)), (79, bv j)], .row b9 3 [iv (a61.item), iv (a61.first), iv (a61.last)] :: ownL true v3 encI items :: .row b7 3 [iv (last_item), iv (last_first), iv (last_last)] :: arrL b3 encI many :: C⟩) h
     ·intro j h;refine zT rfl (zM R4 ?_);obtain ⟨hk64, h⟩ := chk_some h;obtain ⟨a64, hia64, ea64, h⟩ := el_some h;refine zV R3 (Val.iaddr_array (m := 120) rfl rfl rfl rfl aO) (zV R3 (Val.load_arr (en := encI) (p := 3) (j := 0) rfl hk64 ⟨_, rfl, rfl⟩ rfl ea64 rfl) (zM R4 ?_));obtain ⟨c67, hc67⟩ := zY (a64 = best_2);refine zV R3 (Val.eql hc67 rfl rfl) (zM R4 ?_);obtain ⟨rfl, hc67, h⟩ | ⟨rfl, hc67, h⟩ := zI hc67 h
      ·refine zV R3 (vW 2 [_,_,_] R5 R4) (zV R3 (Val.buildC (cs := [_, _, _]) (vs := [(_, _), (_, _), (_, _)]) (ws := [(_, [_]), (_, [_]), (_, [_])]) rfl rfl (CellsL.cons rfl (CellsL.cons rfl (CellsL.cons rfl CellsL.nil))) rfl) ?_);obtain ⟨c71, hc71⟩ := zY (last_item = (-1) ∧ last_first = (-1) ∧ last_last = (-1));refine zV R3 (Val.binD hc71 rfl rfl (eql_ty125 _ _ _ _ _ _ _ _)) (zM R4 ?_);obtain ⟨rfl, hc71, h⟩ | ⟨rfl, hc71, h⟩ := zI hc71 h
       ·refine zO R3 (zO R3 (zO R3 (zO R3 (zO R3 (zP R6 (zP R6 (zN ?_)))))));cases h;exact ⟨rfl, (), (sb .refl)⟩
       refine zF 1 R6 (zL 0 R3 R6 (zF 2 R6 (zL 2 R3 R6 ?_)));obtain ⟨c77, hc77⟩ := zY (a61.first > last_last);refine zV R3 (Val.gtr hc77 rfl rfl) (zP R6 (zP R6 (zN ?_)));subst hc77;cases h;exact ⟨rfl, (), (sb .refl)⟩
      refine zO R3 (zO R3 (zO R3 (zO R3 (zO R3 (zO R3 (zO R3 (zO R3 (zO R3 (zO R3 (zP R6 (zN ?_)))))))))));cases h;exact ⟨rfl, (), (sb .refl)⟩
     ·rintro x79 _ h;obtain ⟨rfl, h⟩ | ⟨rfl, h⟩ := zZ h
      ·refine zC rfl (zU rfl (zV R3 (vW 0 [_,_,_] R5 R4) (TO.eff0 rfl rfl (Eff.store_row (p := 2) (cv := [_, _, _]) (cells' := [_, _, _]) rfl rfl rfl rfl rfl rfl rfl rfl aG (by decide) rfl) ?_)));rintro _ rfl;refine zG (_::_::_::_::C) rfl (zN (zT rfl (zM R4 ?_)));obtain ⟨hk82, h⟩ := chk_some h;refine zV R3 (Val.sub rfl rfl hk82) (zA R4 (zN ?_));cases h;exact ⟨rfl, v3, (sb (pk [1,1,1,98] rfl))⟩
      refine zD rfl (zT rfl (zM R4 (zF 0 R6 (zL 0 R3 R6 (TO.build1 (en := encI) (a := a61.item) rfl rfl rfl ⟨rfl, rfl⟩ ⟨_, rfl, rfl⟩ (by decide) (by decide) rfl rfl (fun v86=>?_))))));obtain ⟨hk87, h⟩ := chk_some h;refine TO.eff rfl rfl rfl (Eff.append_own (b := 8) (en := encI) (l := items) (l2 := [a61.item]) (p := 2) (q := 0) ⟨rfl, rfl, rfl, ⟨_, rfl, rfl⟩, by decide, by decide⟩ rfl rfl rfl rfl rfl rfl (flat_ones _) (by decide) hk87) ?_;rintro v87 _ rfl;refine zG (_::_::_::_::_::C) rfl (zA R4 (zN ?_));cases h;exact ⟨rfl, v87, (sb (pk [2,2,2,98,98] rfl))⟩
    ·rintro ⟨best_3, items_2, last_item_2, last_first_2, last_last_2⟩ v3_2 h;dsimp only at h;dsimp only;refine zT rfl ?_;obtain ⟨hk88, h⟩ := chk_some h;refine zV R3 (Val.add rfl rfl hk88) (zM R4 (zN ?_));cases h;exact ⟨rfl, v3_2, (sb .refl)⟩
   refine zD rfl (zE ?_);cases h;exact ⟨ex_ne, ⟨rfl, v3, (sb .refl)⟩⟩
  ·rintro ⟨last_item, last_first, last_last, items⟩ v3 h;dsimp only at h;dsimp only;refine zU rfl (zM R4 (zA R4 (zN (zR ?_))));cases h;exact ⟨rfl, _, rfl, ⟨v3, rfl, (pk [0,98,98] rfl)⟩⟩
set_option maxRecDepth 10000 in
theorem tf_c_faults {k : Nat} (hk : 0 ≤ k) {C : List Thing} {id_x : Nat} {x_CpCase_Book_Signed : Int} {v_x_CpCase_Book_Gatherings : AV} {x_CpCase_Book_Gatherings : List Gat} {v_x_CpCase_Items : AV} {x_CpCase_Items : List Item} {v_x_leaves : AV} {x_leaves : List Leaf} {v_x_mates : AV} {x_mates : List Int} {v_t : AV} {t : List Int} (h_x_CpCase_Book_Gatherings : Rdl C encG v_x_CpCase_Book_Gatherings x_CpCase_Book_Gatherings) (h_x_CpCase_Items : Rdl C encIt v_x_CpCase_Items x_CpCase_Items) (h_x_leaves : Rdl C encL v_x_leaves x_leaves) (h_x_mates : Rdl C encI v_x_mates x_mates) (h_x : Thing.row id_x 5 [iv (x_CpCase_Book_Signed), v_x_CpCase_Book_Gatherings, v_x_CpCase_Items, v_x_leaves, v_x_mates] ∈ C) (h_t : Rdl C encI v_t t) {r : (List Int) × (List Int) × Int × (List Int) × (List Int) × (List Int) × Int} (h : P_c_faults x_CpCase_Book_Signed x_CpCase_Book_Gatherings x_CpCase_Items x_leaves x_mates t = some r) :
  TF (EL k) 55 [.ptr id_x 0 5, v_t] C (RepF (fun (w : AV × AV × AV × AV × AV) => .agg [w.1, w.2.1, iv r.2.2.1, w.2.2.1, w.2.2.2.1, w.2.2.2.2, iv r.2.2.2.2.2.2]) (fun (w : AV × AV × AV × AV × AV) => ownL true w.1 encI r.1 :: ownL true w.2.1 encI r.2.1 :: ownL true w.2.2.1 encI r.2.2.2.1 :: ownL true w.2.2.2.1 encI r.2.2.2.2.1 :: ownL true w.2.2.2.2 encI r.2.2.2.2.2.1 :: C)) := by
 unfold P_c_faults at h;refine TF.enterG (fn := Go.Proofs.Tryz.f55) rfl rfl rfl rfl rfl (zU rfl (zJ 7 [_,_,_,_,_,_,_] R7 (fun b4=>zN (zU rfl (zM R4 (zM R4 ?_))))));obtain ⟨y16, hr16, h⟩ := andx_some h;refine TO.callT (first := []) (cap := []) (vs := [.ptr id_x 0 5, v_t]) rfl rfl rfl rfl rfl rfl (orcN rfl) (tf_c_lost aD (Rdl.mono h_x_CpCase_Book_Gatherings M1) (Rdl.mono h_x_CpCase_Items M1) (Rdl.mono h_x_leaves M1) (Rdl.mono h_x_mates M1) (M1 _ h_x) (Rdl.mono h_t M1) hr16) ?_;rintro w16;refine zG (_::_::C) rfl (zF 1 R6 (TO.fact (own_cellS (p := 0) rfl) (fun hot2=>TO.eff0 rfl rfl (Eff.store_row (p := 1) (cv := [_]) (cells' := [_, _, _, _, _, _, _]) rfl rfl rfl rfl rfl hot2.1 rfl rfl (by first | rfl | (simp [GS.one, hot2.2]; done)) (by decide) rfl) ?_)));rintro _ rfl;refine zG (_::_::C) rfl (zN (zU rfl (TO.makeMapI rfl rfl rfl (fun m18=>zA R4 (zN ?_)))))
 show T _ _ _ _ _ _;apply T.joinA (r := r) (W := Unit) (fun j w => ⟨[], [(0, .ptr id_x 0 5), (1, v_t), (4, .ptr b4 0 7)], .cnt m18 KInt (cntI j.1) [] :: ownL true w16 encI y16 :: .row b4 7 [nilS, w16, iv (j.2), nilS, nilS, nilS, iv (0)] :: C⟩) h
 ·intro j h;refine zU rfl (zF 1 R6 (zL 2 R3 R6 (zV R3 (Val.len_own (p := 1) rfl rfl rfl) (zM R4 (zN (zB ?_))))))
  show T _ _ _ _ _ _;apply T.iter (r := j) (W := Unit) (fun j w => ⟨[], [(0, .ptr id_x 0 5), (1, v_t), (4, .ptr b4 0 7), (5, .map m18), (20, w16), (21, iv ((y16.length : Int))), (22, iv (j.1))], .cnt m18 KInt (cntI j.2.1) [] :: ownL true w16 encI y16 :: .row b4 7 [nilS, w16, iv (j.2.2), nilS, nilS, nilS, iv (0)] :: C⟩) (w0 := ()) h
  ·exact (sb .refl)
  rintro ⟨x22, m, f_Pieces⟩ _ a h;unfold P_c_faults_L1 at h;dsimp only at h;dsimp only;refine zU rfl ?_;obtain ⟨c23, hc23⟩ := zY (x22 < (y16.length : Int));refine zV R3 (Val.lss hc23 rfl rfl) (zN (zS ?_));obtain ⟨rfl, hc23, h⟩ | ⟨rfl, hc23, h⟩ := zI hc23 h
  ·refine zC rfl (zK ?_)
   show T _ _ _ _ _ _;apply T.joinA (r := a) (W := Unit) (fun j w => ⟨[], [(0, .ptr id_x 0 5), (1, v_t), (4, .ptr b4 0 7), (5, .map m18), (20, w16), (21, iv ((y16.length : Int))), (22, iv (x22))], .cnt m18 KInt (cntI j.1) [] :: ownL true w16 encI y16 :: .row b4 7 [nilS, w16, iv (j.2), nilS, nilS, nilS, iv (0)] :: C⟩) h
   ·intro j h;refine zB (zU rfl ?_);obtain ⟨a24, hia24, ea24, h⟩ := el_some h;refine TO.fact (own_at (en := encI) (p := 1) rfl hia24) (fun hp=>?_);obtain ⟨ida24, ata24⟩ := hp;refine zV R3 (Val.iaddr_at (en := encI) ata24 ⟨rfl, rfl⟩ rfl rfl hia24) (zV R3 (Val.load_ownL (en := encI) (p := 1) (j := 0) rfl ata24 ⟨_, rfl, rfl⟩ rfl ea24 rfl) (zA R4 (zN (zU rfl (zM R4 (zV R3 (Val.nil_ptr rfl) (zF 4 R6 (zV R3 (Val.load_rowM h_x M3 ⟨_, rfl, rfl⟩ rfl rfl rfl) (zM R4 ?_)))))))));obtain ⟨a31, hia31, ea31, h⟩ := el_some h;refine TO.fact (rdl_at h_x_mates M3 hia31 ea31) (fun hp=>?_);obtain ⟨pa31, hpa31, hva31⟩ := hp;refine zV R3 (hva31 ⟨rfl, rfl⟩ rfl rfl) (zV R3 (Val.load_e hpa31 M3 ⟨_, rfl, rfl⟩ rfl rfl) (zA R4 (zN (zU rfl (zM R4 (zM R4 (zV R3 (Val.lookupI (p := 0) rfl rfl key_ty3 rfl rfl rfl) ?_)))))));obtain ⟨hk36, h⟩ := chk_some h;refine zV R3 (Val.add rfl rfl hk36) (TO.eff0 rfl rfl (Eff.mapUpdateI (p := 0) rfl rfl key_ty3 rfl rfl rfl) ?_);rintro _ rfl;refine zG (_::_::_::C) rfl (zN ?_)
    show T _ _ _ _ _ _;apply T.joinA (r := j) (W := Unit) (fun j w => ⟨[], [(0, .ptr id_x 0 5), (1, v_t), (4, .ptr b4 0 7), (5, .map m18), (20, w16), (21, iv ((y16.length : Int))), (22, iv (x22)), (44, bv j)], .cnt m18 KInt (cntI (putI m a24 ((m a24) + 1))) [] :: ownL true w16 encI y16 :: .row b4 7 [nilS, w16, iv (f_Pieces), nilS, nilS, nilS, iv (0)] :: C⟩) h
    ·intro j h;refine zT rfl (zM R4 ?_);obtain ⟨c38, hc38⟩ := zY (a31 < 0);refine zV R3 (Val.lss hc38 rfl rfl) (zM R4 ?_);obtain ⟨rfl, hc38, h⟩ | ⟨rfl, hc38, h⟩ := zI hc38 h
     ·refine zO R3 (zO R3 (zO R3 (zO R3 (zP R6 (zN ?_)))));cases h;exact ⟨rfl, (), (sb .refl)⟩
     refine zM R4 (zM R4 (zV R3 (Val.lookupI (p := 0) rfl rfl key_ty3 rfl rfl rfl) ?_));obtain ⟨c43, hc43⟩ := zY (((putI m a24 ((m a24) + 1)) a31) = 0);refine zV R3 (Val.eql hc43 rfl rfl) (zP R6 (zN ?_));subst hc43;cases h;exact ⟨rfl, (), (sb .refl)⟩
    ·rintro x44 _ h;obtain ⟨rfl, h⟩ | ⟨rfl, h⟩ := zZ h
     ·refine zC rfl (zT rfl (zF 2 R6 (zL 2 R3 R6 ?_)));obtain ⟨hk47, h⟩ := chk_some h;refine zV R3 (Val.add rfl rfl hk47) (zF 2 R6 (TO.eff0 rfl rfl (Eff.store_row (p := 2) (cv := [_]) (cells' := [_, _, _, _, _, _, _]) rfl rfl rfl rfl rfl rfl rfl rfl aG (by decide) rfl) ?_));rintro _ rfl;refine zG (_::_::_::C) rfl (zN ?_);cases h;exact ⟨rfl, (), (sb .refl)⟩
     refine zD rfl (zK ?_);cases h;exact ⟨rfl, (), (sb .refl)⟩
   ·rintro ⟨m_2, f_Pieces_2⟩ _ h;dsimp only at h;dsimp only;refine zT rfl ?_;obtain ⟨hk49, h⟩ := chk_some h;refine zV R3 (Val.add rfl rfl hk49) (zM R4 (zN ?_));cases h;exact ⟨rfl, (), (sb .refl)⟩
  refine zD rfl (zE ?_);cases h;exact ⟨ex_ne, ⟨rfl, (), (sb .refl)⟩⟩
 ·rintro ⟨m, f_Pieces⟩ _ h;dsimp only at h;dsimp only;refine zU rfl (zA R4 (zN (zU rfl (TO.makeMapI rfl rfl rfl (fun m50=>zA R4 (zN ?_))))))
  show T _ _ _ _ _ _;apply T.joinA (r := r) (W := AV × AV × AV) (fun j w => ⟨[], [(4, .ptr b4 0 7), (9, w.1)], ownL true w.1 enc_copy_run j.2.1 :: ownL true w.2.1 encI j.2.2.1 :: ownL true w.2.2 encI j.2.2.2 :: .cnt m50 KInt (cntI j.1) [] :: ownL true w16 encI y16 :: .row b4 7 [nilS, w16, iv (f_Pieces), w.2.1, w.2.2, nilS, iv (0)] :: C⟩) h
  ·intro j h;refine zU rfl (zM R4 (zV R3 (Val.len_l h_t M4 rfl rfl) (zM R4 (zN (zB (T.nilown (u := encI.u) (T.nilown (u := encI.u) (T.nilown (u := enc_copy_run.u) ?_))))))))
   show T _ _ _ _ _ _;apply T.iter (r := j) (W := AV × AV × AV) (fun j w => ⟨[], [(0, .ptr id_x 0 5), (4, .ptr b4 0 7), (9, w.1), (10, .map m50), (51, v_t), (52, iv ((t.length : Int))), (53, iv (j.1))], ownL true w.1 enc_copy_run j.2.1 :: ownL true w.2.1 encI j.2.2.1 :: ownL true w.2.2 encI j.2.2.2.1 :: .cnt m50 KInt (cntI j.2.2.2.2) [] :: ownL true w16 encI y16 :: .row b4 7 [nilS, w16, iv (f_Pieces), w.2.1, w.2.2, nilS, iv (0)] :: C⟩) (w0 := (nilS, nilS, nilS)) h
   ·exact (sb (pk [0,0,0,0,1,1,98] rfl))
   rintro ⟨x53, l, f_Strange, f_Twice, m_2⟩ ⟨v7, v6, v5⟩ a h;unfold P_c_faults_L2 at h;dsimp only at h;dsimp only;refine zU rfl ?_;obtain ⟨c54, hc54⟩ := zY (x53 < (t.length : Int));refine zV R3 (Val.lss hc54 rfl rfl) (zN (zS ?_));obtain ⟨rfl, hc54, h⟩ | ⟨rfl, hc54, h⟩ := zI hc54 h
   ·refine zC rfl (zK ?_)
    show T _ _ _ _ _ _;apply T.joinA (r := a) (W := AV × AV × AV) (fun j w => ⟨[], [(0, .ptr id_x 0 5), (4, .ptr b4 0 7), (9, w.1), (10, .map m50), (51, v_t), (52, iv ((t.length : Int))), (53, iv (x53))], ownL true w.1 enc_copy_run j.1 :: ownL true w.2.1 encI j.2.1 :: ownL true w.2.2 encI j.2.2.1 :: .cnt m50 KInt (cntI j.2.2.2) [] :: ownL true w16 encI y16 :: .row b4 7 [nilS, w16, iv (f_Pieces), w.2.1, w.2.2, nilS, iv (0)] :: C⟩) h
    ·intro j h;refine zB (zU rfl (zM R4 ?_));obtain ⟨a56, hia56, ea56, h⟩ := el_some h;refine TO.fact (rdl_at h_t M6 hia56 ea56) (fun hp=>?_);obtain ⟨pa56, hpa56, hva56⟩ := hp;refine zV R3 (hva56 ⟨rfl, rfl⟩ rfl rfl) (zV R3 (Val.load_e hpa56 M6 ⟨_, rfl, rfl⟩ rfl rfl) (zA R4 (zA R4 (zN (zS (zU rfl (zM R4 ?_)))))));obtain ⟨c59, hc59⟩ := zY (a56 < 0);refine zV R3 (Val.lss hc59 rfl rfl) (zN ?_);obtain ⟨rfl, hc59, h⟩ | ⟨rfl, hc59, h⟩ := zI hc59 h
     ·refine zC rfl (zU rfl (zF 3 R6 (zL 5 R3 R6 (zM R4 (TO.build1 (en := encI) (a := x53) rfl rfl rfl ⟨rfl, rfl⟩ ⟨_, rfl, rfl⟩ (by decide) (by decide) rfl rfl (fun v63=>?_))))));obtain ⟨hk64, h⟩ := chk_some h;refine TO.eff rfl rfl rfl (Eff.append_own (b := 8) (en := encI) (l := f_Strange) (l2 := [x53]) (p := 2) (q := 0) ⟨rfl, rfl, rfl, ⟨_, rfl, rfl⟩, by decide, by decide⟩ rfl rfl rfl rfl rfl rfl (flat_ones _) (by decide) hk64) ?_;rintro v64 _ rfl;refine zG (_::_::_::_::_::_::_::C) rfl (zF 3 R6 (TO.fact (own_cellS (p := 2) rfl) (fun hot6=>TO.eff0 rfl rfl (Eff.store_row (p := 6) (cv := [_]) (cells' := [_, _, _, _, _, _, _]) rfl rfl rfl rfl rfl hot6.1 rfl rfl (by first | rfl | (simp [GS.one, hot6.2]; done)) (by decide) rfl) ?_)));rintro _ rfl;refine zG (_::_::_::_::_::_::_::C) rfl (zN (zE ?_));cases h;exact ⟨rfl, (v7, v64, v5), (sb (pk [1,1,1,1,1,1,98] rfl))⟩
     refine zD rfl (zK (zS (zU rfl (zM R4 (zM R4 (zV R3 (Val.lookupI (p := 3) rfl rfl key_ty3 rfl rfl rfl) ?_))))));obtain ⟨hk69, h⟩ := chk_some h;refine zV R3 (Val.add rfl rfl hk69) (TO.eff0 rfl rfl (Eff.mapUpdateI (p := 3) rfl rfl key_ty3 rfl rfl rfl) ?_);rintro _ rfl;refine zG (_::_::_::_::_::_::C) rfl (zN (zU rfl (zM R4 (zM R4 (zV R3 (Val.lookupI (p := 3) rfl rfl key_ty3 rfl rfl rfl) ?_)))));obtain ⟨c73, hc73⟩ := zY (((putI m_2 a56 ((m_2 a56) + 1)) a56) > 1);refine zV R3 (Val.gtr hc73 rfl rfl) (zN ?_);obtain ⟨rfl, hc73, h⟩ | ⟨rfl, hc73, h⟩ := zI hc73 h
     ·refine zC rfl (zU rfl (zF 4 R6 (zL 5 R3 R6 (zM R4 (TO.build1 (en := encI) (a := x53) rfl rfl rfl ⟨rfl, rfl⟩ ⟨_, rfl, rfl⟩ (by decide) (by decide) rfl rfl (fun v77=>?_))))));obtain ⟨hk78, h⟩ := chk_some h;refine TO.eff rfl rfl rfl (Eff.append_own (b := 8) (en := encI) (l := f_Twice) (l2 := [x53]) (p := 3) (q := 0) ⟨rfl, rfl, rfl, ⟨_, rfl, rfl⟩, by decide, by decide⟩ rfl rfl rfl rfl rfl rfl (flat_ones _) (by decide) hk78) ?_;rintro v78 _ rfl;refine zG (_::_::_::_::_::_::_::C) rfl (zF 4 R6 (TO.fact (own_cellS (p := 3) rfl) (fun hot5=>TO.eff0 rfl rfl (Eff.store_row (p := 6) (cv := [_]) (cells' := [_, _, _, _, _, _, _]) rfl rfl rfl rfl rfl hot5.1 rfl rfl (by first | rfl | (simp [GS.one, hot5.2]; done)) (by decide) rfl) ?_)));rintro _ rfl;refine zG (_::_::_::_::_::_::_::C) rfl (zN (zE ?_));cases h;exact ⟨rfl, (v7, v6, v78), (sb (pk [1,1,1,1,1,1,98] rfl))⟩
     refine zD rfl (zK ?_)
     show T _ _ _ _ _ _;apply T.join (r := j) (W := Unit) (fun j w => ⟨[], [(0, .ptr id_x 0 5), (4, .ptr b4 0 7), (9, v7), (10, .map m50), (11, iv (x53)), (12, iv (a56)), (51, v_t), (52, iv ((t.length : Int))), (53, iv (x53))], ownL true v7 enc_copy_run l :: ownL true v6 encI f_Strange :: ownL true v5 encI f_Twice :: .cnt m50 KInt (cntI (putI m_2 a56 ((m_2 a56) + 1))) [] :: ownL true w16 encI y16 :: .row b4 7 [nilS, w16, iv (f_Pieces), v6, v5, nilS, iv (0)] :: C⟩) h
     ·intro j h;refine zU rfl (zM R4 (zV R3 (Val.len_own (p := 0) rfl rfl rfl) ?_));obtain ⟨hk82, h⟩ := chk_some h;refine zV R3 (Val.sub rfl rfl hk82) (zA R4 (zN ?_))
      show T _ _ _ _ _ _;apply T.joinA (r := j) (W := Unit) (fun j w => ⟨[], [(0, .ptr id_x 0 5), (4, .ptr b4 0 7), (9, v7), (10, .map m50), (11, iv (x53)), (12, iv (a56)), (13, iv (((l.length : Int) - 1))), (51, v_t), (52, iv ((t.length : Int))), (53, iv (x53)), (116, bv j)], ownL true v7 enc_copy_run l :: ownL true v6 encI f_Strange :: ownL true v5 encI f_Twice :: .cnt m50 KInt (cntI (putI m_2 a56 ((m_2 a56) + 1))) [] :: ownL true w16 encI y16 :: .row b4 7 [nilS, w16, iv (f_Pieces), v6, v5, nilS, iv (0)] :: C⟩) h
      ·intro j h;refine T.draw (fun v => sameC_refl v) (l1 := [0, 1, 2, 3, 4, 5, 6, 7, 8, 9, 10, 11, 12, 13, 14, 15, 16, 17, 18, 19, 20, 21, 22, 23, 24, 25, 26, 27, 28, 29, 30, 31, 32, 33]) (l2 := []) (by kernel_rfl) (by kernel_rfl) (zM R4 ?_);obtain ⟨c84, hc84⟩ := zY (((l.length : Int) - 1) ≥ 0);refine zV R3 (Val.geq hc84 rfl rfl) (zM R4 ?_);obtain ⟨rfl, hc84, h⟩ | ⟨rfl, hc84, h⟩ := zI hc84 h
       ·refine zM R4 (zM R4 ?_);obtain ⟨a88, hia88, ea88, h⟩ := el_some h;refine TO.fact (own_at (en := enc_copy_run) (p := 0) rfl hia88) (fun hp=>?_);obtain ⟨ida88, ata88⟩ := hp;refine zV R3 (Val.iaddr_at (en := enc_copy_run) ata88 ⟨rfl, rfl⟩ rfl rfl hia88) (zV R3 (Val.faddr_ptr_ rfl rfl) (zV R3 (Val.load_ownL (en := enc_copy_run) (p := 0) (j := 2) rfl ata88 ⟨_, rfl, rfl⟩ rfl ea88 rfl) (zM R4 ?_)));obtain ⟨c92, hc92⟩ := zY (a88.last < a56);refine zV R3 (Val.lss hc92 rfl rfl) (zP R6 (zM R4 ?_));obtain ⟨rfl, hc92, h⟩ | ⟨rfl, hc92, h⟩ := zI hc92 h
        ·refine zM R4 (zV R3 (Val.nil_ptr rfl) (zF 3 R6 (zV R3 (Val.load_rowM h_x M6 ⟨_, rfl, rfl⟩ rfl rfl rfl) (zM R4 (zM R4 ?_)))));obtain ⟨a101, hia101, ea101, h⟩ := el_some h;refine TO.fact (own_at (en := enc_copy_run) (p := 0) rfl hia101) (fun hp=>?_);obtain ⟨ida101, ata101⟩ := hp;refine zV R3 (Val.iaddr_at (en := enc_copy_run) ata101 ⟨rfl, rfl⟩ rfl rfl hia101) (zV R3 (Val.faddr_ptr_ rfl rfl) (zV R3 (Val.load_ownL (en := enc_copy_run) (p := 0) (j := 2) rfl ata101 ⟨_, rfl, rfl⟩ rfl ea101 rfl) ?_));obtain ⟨a104, hia104, ea104, h⟩ := el_some h;refine TO.fact (rdl_at h_x_leaves M6 hia104 ea104) (fun hp=>?_);obtain ⟨pa104, hpa104, hva104⟩ := hp;refine zV R3 (hva104 ⟨rfl, rfl⟩ rfl rfl) (zV R3 (Val.faddr_e (fo := 0) hpa104 rfl rfl rfl) (zV R3 (Val.load_e (PtE.add hpa104 (by decide)) M6 ⟨_, rfl, rfl⟩ rfl rfl) (zM R4 (zV R3 (Val.nil_ptr rfl) (zF 3 R6 (zV R3 (Val.load_rowM h_x M6 ⟨_, rfl, rfl⟩ rfl rfl rfl) (zM R4 ?_)))))));obtain ⟨a112, hia112, ea112, h⟩ := el_some h;refine TO.fact (rdl_at h_x_leaves M6 hia112 ea112) (fun hp=>?_);obtain ⟨pa112, hpa112, hva112⟩ := hp;refine zV R3 (hva112 ⟨rfl, rfl⟩ rfl rfl) (zV R3 (Val.faddr_e (fo := 0) hpa112 rfl rfl rfl) (zV R3 (Val.load_e (PtE.add hpa112 (by decide)) M6 ⟨_, rfl, rfl⟩ rfl rfl) ?_));obtain ⟨c115, hc115⟩ := zY (a104.g = a112.g);refine zV R3 (Val.eql hc115 rfl rfl) (zP R6 (zN ?_));subst hc115;cases h;exact ⟨rfl, (), (sb .refl)⟩
        refine zO R3 (zO R3 (zO R3 (zO R3 (zO R3 (zO R3 (zO R3 (zO R3 (zO R3 (zO R3 (zO R3 (zO R3 (zO R3 (zO R3 (zO R3 (zO R3 (zO R3 (zO R3 (zO R3 (zO R3 (zO R3 (zP R6 (zN ?_))))))))))))))))))))));cases h;exact ⟨rfl, (), (sb .refl)⟩
       refine zO R3 (zO R3 (zO R3 (zO R3 (zO R3 (zO R3 (zO R3 (zP R6 (zM R4 (zO R3 (zO R3 (zO R3 (zO R3 (zO R3 (zO R3 (zO R3 (zO R3 (zO R3 (zO R3 (zO R3 (zO R3 (zO R3 (zO R3 (zO R3 (zO R3 (zO R3 (zO R3 (zO R3 (zO R3 (zO R3 (zP R6 (zN ?_)))))))))))))))))))))))))))))));cases h;exact ⟨rfl, (), (sb .refl)⟩
      ·rintro x116 _ h;obtain ⟨rfl, h⟩ | ⟨rfl, h⟩ := zZ h
       ·refine zC rfl (zU rfl (zM R4 (zM R4 (zM R4 ?_))));obtain ⟨a120, hia120, ea120, h⟩ := el_some h;refine TO.fact (own_at (en := enc_copy_run) (p := 0) rfl hia120) (fun hp=>?_);obtain ⟨ida120, ata120⟩ := hp;refine zV R3 (Val.iaddr_at (en := enc_copy_run) ata120 ⟨rfl, rfl⟩ rfl rfl hia120) (zV R3 (Val.faddr_ptr_ rfl rfl) (TO.eff0 rfl rfl (Eff.store_ownE (en := enc_copy_run) (p := 0) (a := a120) (a' := (⟨a120.item, a120.first, a56⟩ : S_copy_run)) (j := 2) (cv := [_]) rfl ata120 ea120 rfl rfl (by decide) rfl rfl rfl rfl aG rfl) ?_));rintro _ rfl;refine zG (_::_::_::_::_::_::C) rfl (zN (zE ?_));cases h;exact ⟨ex_ne, ⟨rfl, (v7, v6, v5), (sb .refl)⟩⟩
       refine zD rfl (zK ?_);cases h;exact ⟨rfl, (), (sb .refl)⟩
     ·rintro _ _ h;refine zT rfl (zM R4 (zM R4 (zM R4 (zM R4 (zV R3 (Val.buildC (cs := [_, _, _]) (vs := [(_, _), (_, _), (_, _)]) (ws := [(_, [_]), (_, [_]), (_, [_])]) rfl rfl (CellsL.cons rfl (CellsL.cons rfl (CellsL.cons rfl CellsL.nil))) rfl) (TO.build1 (en := enc_copy_run) (a := (⟨x53, a56, a56⟩ : S_copy_run)) rfl rfl rfl ⟨rfl, rfl⟩ ⟨_, rfl, rfl⟩ (by decide) (by decide) rfl rfl (fun v127=>?_)))))));obtain ⟨hk128, h⟩ := chk_some h;refine TO.eff rfl rfl rfl (Eff.append_own (b := 24) (en := enc_copy_run) (l := l) (l2 := [(⟨x53, a56, a56⟩ : S_copy_run)]) (p := 1) (q := 0) ⟨rfl, rfl, rfl, ⟨_, rfl, rfl⟩, by decide, by decide⟩ rfl rfl rfl rfl rfl rfl (en_ones enc_copy_run_ones _) (by decide) hk128) ?_;rintro v128 _ rfl;refine zG (_::_::_::_::_::_::_::C) rfl (zA R4 (zN ?_));cases h;exact ⟨rfl, (v128, v6, v5), (sb (pk [1,1,1,1,1,1,98] rfl))⟩
    ·rintro ⟨l_2, f_Strange_2, f_Twice_2, m_3⟩ ⟨v7_2, v6_2, v5_2⟩ h;dsimp only at h;dsimp only;refine zT rfl ?_;obtain ⟨hk129, h⟩ := chk_some h;refine zV R3 (Val.add rfl rfl hk129) (zM R4 (zN ?_));cases h;exact ⟨rfl, (v7_2, v6_2, v5_2), (sb .refl)⟩
   refine zD rfl (zE ?_);cases h;exact ⟨ex_ne, ⟨rfl, (v7, v6, v5), (sb .refl)⟩⟩
  ·rintro ⟨m_2, l, f_Strange, f_Twice⟩ ⟨v7, v6, v5⟩ h;dsimp only at h;dsimp only;refine zU rfl (zM R4 ?_);obtain ⟨y131, hr131, h⟩ := andx_some h;refine TO.callT (first := []) (cap := []) (vs := [v7]) rfl rfl rfl rfl rfl rfl (orcN rfl) (tf_c_moved aD (Rdl.mono (Rdl.own (C := ownL true v7 enc_copy_run l :: ownL true v6 encI f_Strange :: ownL true v5 encI f_Twice :: .cnt m50 KInt (cntI m_2) [] :: ownL true w16 encI y16 :: .row b4 7 [nilS, w16, iv (f_Pieces), v6, v5, nilS, iv (0)] :: C) (p := 0) rfl) mem0) hr131) ?_;rintro w131;refine zG (_::_::_::_::_::_::_::C) rfl (zF 5 R6 (TO.fact (own_cellS (p := 0) rfl) (fun hot11=>TO.eff0 rfl rfl (Eff.store_row (p := 6) (cv := [_]) (cells' := [_, _, _, _, _, _, _]) rfl rfl rfl rfl rfl hot11.1 rfl rfl (by first | rfl | (simp [GS.one, hot11.2]; done)) (by decide) rfl) ?_)));rintro _ rfl;refine zG (_::_::_::_::_::_::_::C) rfl (zN (zU rfl (zF 2 R6 (zL 6 R3 R6 (zF 3 R6 (zL 6 R3 R6 (zV R3 (Val.len_own (p := 2) rfl rfl rfl) ?_)))))));obtain ⟨hk138, h⟩ := chk_some h;refine zV R3 (Val.add rfl rfl hk138) (zF 4 R6 (zL 6 R3 R6 (zV R3 (Val.len_own (p := 3) rfl rfl rfl) ?_)));obtain ⟨hk142, h⟩ := chk_some h;refine zV R3 (Val.add rfl rfl hk142) (zF 5 R6 (zL 6 R3 R6 (zV R3 (Val.len_own (p := 0) rfl rfl rfl) ?_)));obtain ⟨hk146, h⟩ := chk_some h;refine zV R3 (Val.add rfl rfl hk146) (zF 6 R6 (TO.eff0 rfl rfl (Eff.store_row (p := 6) (cv := [_]) (cells' := [_, _, _, _, _, _, _]) rfl rfl rfl rfl rfl rfl rfl rfl aG (by decide) rfl) ?_));rintro _ rfl;refine zG (_::_::_::_::_::_::_::C) rfl (zN (zU rfl (zV R3 (vW 6 [_,_,_,_,_,_,_] R5 R4) (TO.fact (own_cellS (p := 5) rfl) (fun hot2=>TO.fact (own_cellS (p := 2) rfl) (fun hot6=>TO.fact (own_cellS (p := 3) rfl) (fun hot5=>TO.fact (own_cellS (p := 0) rfl) (fun hot11=>TO.eff0 rfl rfl (Eff.store_row (p := 6) (cv := [_, _, _, _, _, _, _]) (cells' := [_, _, _, _, _, _, _]) rfl rfl rfl rfl rfl rfl rfl rfl (by first | rfl | (simp [GS.one, hot2.2, hot6.2, hot5.2, hot11.2]; done) | (simp [GS.one, hot2.2, hot6.2, hot5.2, hot11.2]; (repeat' apply And.intro) <;> rfl)) (by decide) rfl) ?_))))))));rintro _ rfl;refine zG (_::_::_::_::_::_::_::C) rfl (zN (T.nilown (u := encI.u) (zR ?_)));cases h;exact ⟨rfl, _, rfl, [_], ⟨⟨_, rfl, LoadR.rows (p := 7) (c := [_, _, _, _, _, _, _]) rfl ⟨⟨_, rfl, rfl⟩, rfl, by decide⟩ rfl rfl rfl⟩, trivial⟩, ⟨(nilS, w16, v6, v5, w131), rfl, (pk [0,5,2,2,0,98,98,98] rfl)⟩⟩
end Go.Am.YthckcbfijdambaaGreat
end
section
namespace Go.Am
set_option linter.unusedVariables false
noncomputable def P_c_wide_L1 (x_CpCase_Book_Signed : Int) (x_CpCase_Book_Gatherings : List Gat) (x_CpCase_Items : List Item) (x_leaves : List Leaf) (x_mates : List Int) : (Int × Int) → (List Int) → Option (Stp (Int × Int) (Int × Int)) := fun (s_Lo, s_Hi) t =>
 andx (P_c_faults x_CpCase_Book_Signed x_CpCase_Book_Gatherings x_CpCase_Items x_leaves x_mates t) fun (y24, y24_2, y24_3, y24_4, y24_5, y24_6, y24_7) =>
  some (Stp.ag ((min s_Lo y24_7), (max s_Hi y24_7)))
noncomputable def P_c_wide (x_CpCase_Book_Signed : Int) (x_CpCase_Book_Gatherings : List Gat) (x_CpCase_Items : List Item) (x_leaves : List Leaf) (x_mates : List Int) : Option (Int × Int) :=
  chk (I64 (2 * (x_CpCase_Items.length : Int))) (
    chk (I64 ((x_leaves.length : Int) + (2 * (x_CpCase_Items.length : Int)))) (
      andx (
        chk (x_CpCase_Items.length ≤ 120 ∧ ∀ x ∈ x_CpCase_Items, x.could.l.length ≤ 4) (
          seqx (foldx (P_c_wide_L1 x_CpCase_Book_Signed x_CpCase_Book_Gatherings x_CpCase_Items x_leaves x_mates) (truthsOf x_CpCase_Items) (((x_leaves.length : Int) + (2 * (x_CpCase_Items.length : Int))), 0)) fun (s_Lo, s_Hi) =>
            some (s_Lo, s_Hi))) fun (s_Lo, s_Hi) =>
        some (s_Lo, s_Hi)))
noncomputable def P_c_open_L2 (x44 : Int) (a47 : Item) : Int → Option (Stp Int (Ex Unit (Stp Int (Ex Unit (Sum (Int × Int × Int) (Int × (GS encL) × (List Int) × Int × Int × Int)))))) := fun x66 =>
  if x66 < (a47.could.l.length : Int) then
    seqx (
      el a47.could.l x66 fun a69 =>
      andx (
        if x66 > 0 then
          chk (I64 (x66 - 1)) (
            el a47.could.l (x66 - 1) fun a79 =>
            some (decide (a69 ≤ a79)))
        else
          some false) fun x82 =>
        if x82 = true then
          some (Ex.rt (Stp.dn (Ex.rt (Stp.dn (Ex.rt (Sum.inl (2, x44, 2)))))))
        else
          some (Ex.nx ())) fun _ =>
      chk (I64 (x66 + 1)) (
        some (Stp.ag (x66 + 1)))
  else
    some (Stp.dn (Ex.nx ()))
noncomputable def P_c_open_L1 (c_Items : List Item) (leaves31 : List Leaf) : Int → Option (Stp Int (Ex Unit (Sum (Int × Int × Int) (Int × (GS encL) × (List Int) × Int × Int × Int)))) := fun x44 =>
  if x44 < (c_Items.length : Int) then
    seqx (
      el c_Items x44 fun a47 =>
      if (a47.could.l.length : Int) > 4 then
        some (Ex.rt (Stp.dn (Ex.rt (Sum.inl (2, x44, 3)))))
      else
        chk (I64 ((leaves31.length : Int) - 1)) (
          andx (P_c_outside 0 ((leaves31.length : Int) - 1) a47.could.l) fun out61 =>
            if out61 = true then
              some (Ex.rt (Stp.dn (Ex.rt (Sum.inl (2, x44, 4)))))
            else
              iter (P_c_open_L2 x44 a47) 0)) fun _ =>
      chk (I64 (x44 + 1)) (
        some (Stp.ag (x44 + 1)))
  else
    some (Stp.dn (Ex.nx ()))
noncomputable def P_c_open_L3 (c_Items : List Item) : (Int × Int) → Option (Stp (Int × Int) (Ex Unit (Sum (Int × Int × Int) (Int × (GS encL) × (List Int) × Int × Int × Int)))) := fun (doubts, x89) =>
  if x89 < (c_Items.length : Int) then
    seqx (
      el c_Items x89 fun a92 =>
      andx (
        if (a92.could.l.length : Int) > 1 then
          chk (I64 (doubts + 1)) (
            some (doubts + 1))
        else
          some doubts) fun doubts_2 =>
        if doubts_2 > 3 then
          some (Ex.rt (Stp.dn (Ex.rt (Sum.inl (3, x89, 3)))))
        else
          some (Ex.nx doubts_2)) fun doubts_2 =>
      chk (I64 (x89 + 1)) (
        some (Stp.ag (doubts_2, (x89 + 1))))
  else
    some (Stp.dn (Ex.nx ()))
noncomputable def P_c_open_L4 (c_Book_Signed : Int) (c_Book_Gatherings : List Gat) (leaves31 : List Leaf) : (Int × (List Int)) → Option (Stp (Int × (List Int)) (List Int)) := fun (x110, b107_mates) =>
  if x110 < (leaves31.length : Int) then
    andx (
      andx (P_q_Mate c_Book_Signed c_Book_Gatherings x110) fun (mate117, e117) =>
        andx (
          if ¬ e117 = 0 then
            some (-1)
          else
            some mate117) fun m =>
          chk (b107_mates.length + [m].length < 1000000000) (
            some (b107_mates ++ [m]))) fun b107_mates_2 =>
      chk (I64 (x110 + 1)) (
        some (Stp.ag ((x110 + 1), b107_mates_2)))
  else
    some (Stp.dn b107_mates)
noncomputable def P_c_open (c_Book_Signed : Int) (c_Book_Gatherings : List Gat) (c_Items : List Item) : Option (Sum (Int × Int × Int) (Int × (GS encL) × (List Int) × Int × Int × Int)) :=
  andx (P_q_Check c_Book_Signed c_Book_Gatherings) fun (part21, at_21, e21) =>
    if ¬ e21 = 0 then
      some (Sum.inl (1, 0, e21))
    else
      andx (P_q_Leaves c_Book_Signed c_Book_Gatherings) fun (leaves31, e31) =>
        if (leaves31.length : Int) > 120 then
          some (Sum.inl (1, 0, 3))
        else
          if (c_Items.length : Int) > 120 then
            some (Sum.inl (2, 0, 3))
          else
            seqx (
              iter (P_c_open_L1 c_Items leaves31) 0) fun _ =>
              seqx (
                iter (P_c_open_L3 c_Items) (0, 0)) fun _ =>
                andx (
                  iter (P_c_open_L4 c_Book_Signed c_Book_Gatherings leaves31) (0, [])) fun b107_mates =>
                  some (Sum.inr (c_Book_Signed, (GSo true encL leaves31), b107_mates, 0, 0, 0))
noncomputable def P_c_Check (c_Book_Signed : Int) (c_Book_Gatherings : List Gat) (c_Items : List Item) : Option (Int × Int × Int) :=
  andx (P_c_open c_Book_Signed c_Book_Gatherings c_Items) fun y =>
    match y with
    | .inl (y7_2, y7_3, y7_4) =>
      chk (¬ y7_4 = 0) (
        some (y7_2, y7_3, y7_4))
    | .inr (y7_2, y7_3, y7_4, y7_5, y7_6, y7_7) =>
      chk (y7_7 = 0) (
        some (y7_5, y7_6, y7_7))
noncomputable def P_c_Faults_L1 (c_Book_Gatherings : List Gat) (c_Items : List Item) (y12_2 : Int) (y12_3 : GS encL) (y12_4 : List Int) : ((List Int) × Bool × (List Int) × (List Int) × (List Int) × (List Int) × Bool × Int × Int) → (List Int) → Option (Stp ((List Int) × Bool × (List Int) × (List Int) × (List Int) × (List Int) × Bool × Int × Int) ((List Int) × Bool × (List Int) × (List Int) × (List Int) × (List Int) × Bool × Int × Int)) := fun (best_Leaves, z, best_Lost, best_Strange, best_Twice, best_Moved, first, best_Pieces, best_All) t =>
  andx (P_c_faults y12_2 c_Book_Gatherings c_Items y12_3.l y12_4 t) fun (y26, y26_2, y26_3, y26_4, y26_5, y26_6, y26_7) =>
    seqx (
      andx (
        if first = true then
          some (false, true)
        else
          some (decide (y26_7 ≥ best_All), false)) fun (x35, first_2) =>
        if x35 = true then
          some (Ex.rt (Stp.ag (best_Leaves, z, best_Lost, best_Strange, best_Twice, best_Moved, first_2, best_Pieces, best_All)))
        else
          some (Ex.nx first_2)) fun first_2 =>
      chk (0 ≤ (t.length : Int) ∧ (t.length : Int) ≤ 1000000000) (
        chk ((List.replicate (t.length : Int).toNat (0 : Int)).length = t.length) (
          some (Stp.ag (t, false, y26_2, y26_4, y26_5, y26_6, false, y26_3, y26_7))))
noncomputable def P_c_Faults (c_Book_Signed : Int) (c_Book_Gatherings : List Gat) (c_Items : List Item) : Option ((List Int) × Bool × (List Int) × Bool × Int × (List Int) × Bool × (List Int) × Bool × (List Int) × Bool × Int × Int) :=
  andx (P_c_open c_Book_Signed c_Book_Gatherings c_Items) fun y =>
    match y with
    | .inl (y12_2, y12_3, y12_4) =>
      chk (¬ y12_4 = 0) (
        some ([], true, [], true, 0, [], true, [], true, [], true, 0, y12_4))
    | .inr (y12_2, y12_3, y12_4, y12_5, y12_6, y12_7) =>
      chk (y12_7 = 0) (
        andx (
          chk (c_Items.length ≤ 120 ∧ ∀ x ∈ c_Items, x.could.l.length ≤ 4) (
            seqx (foldx (P_c_Faults_L1 c_Book_Gatherings c_Items y12_2 y12_3 y12_4) (truthsOf c_Items) ([], true, [], [], [], [], true, 0, 0)) fun (best_Leaves, z, best_Lost, best_Strange, best_Twice, best_Moved, first, best_Pieces, best_All) =>
              some (best_Leaves, z, best_Lost, best_Strange, best_Twice, best_Moved, first, best_Pieces, best_All))) fun (best_Leaves, z, best_Lost, best_Strange, best_Twice, best_Moved, first, best_Pieces, best_All) =>
          some (best_Leaves, z, best_Lost, true, best_Pieces, best_Strange, true, best_Twice, true, best_Moved, true, best_All, 0))
noncomputable def P_c_Range (c_Book_Signed : Int) (c_Book_Gatherings : List Gat) (c_Items : List Item) : Option (Int × Int × Int) :=
  andx (P_c_open c_Book_Signed c_Book_Gatherings c_Items) fun y =>
    match y with
    | .inl (y10_2, y10_3, y10_4) =>
      chk (¬ y10_4 = 0) (
        some (0, 0, y10_4))
    | .inr (y10_2, y10_3, y10_4, y10_5, y10_6, y10_7) =>
      chk (y10_7 = 0) (
        andx (P_c_wide y10_2 c_Book_Gatherings c_Items y10_3.l y10_4) fun (y20, y20_2) =>
          some (y20, y20_2, 0))
end Go.Am
end
section
namespace Go.Am.YthckcbfijdambaaGreat
open Go.Am Go.RowKit
set_option linter.unusedVariables false
set_option linter.unusedSimpArgs false
set_option maxRecDepth 10000 in
theorem tf_c_wide {k : Nat} (hk : 0 ≤ k) {C : List Thing} {id_x : Nat} {x_CpCase_Book_Signed : Int} {v_x_CpCase_Book_Gatherings : AV} {x_CpCase_Book_Gatherings : List Gat} {v_x_CpCase_Items : AV} {x_CpCase_Items : List Item} {v_x_leaves : AV} {x_leaves : List Leaf} {v_x_mates : AV} {x_mates : List Int} (h_x_CpCase_Book_Gatherings : Rdl C encG v_x_CpCase_Book_Gatherings x_CpCase_Book_Gatherings) (h_x_CpCase_Items : Rdl C encIt v_x_CpCase_Items x_CpCase_Items) (h_x_leaves : Rdl C encL v_x_leaves x_leaves) (h_x_mates : Rdl C encI v_x_mates x_mates) (h_x : Thing.row id_x 5 [iv (x_CpCase_Book_Signed), v_x_CpCase_Book_Gatherings, v_x_CpCase_Items, v_x_leaves, v_x_mates] ∈ C) {r : Int × Int} (h : P_c_wide x_CpCase_Book_Signed x_CpCase_Book_Gatherings x_CpCase_Items x_leaves x_mates = some r) :
  TF (EL k) 42 [.ptr id_x 0 5] C (RepF (fun (w : Unit) => .agg [iv r.1, iv r.2]) (fun (w : Unit) => C)) := by
 unfold P_c_wide at h;refine TF.enterG (fn := Go.Proofs.Tryz.f42) rfl rfl rfl rfl rfl (zU rfl (zQ 1 [_] R7 (fun b1=>zJ 2 [_,_] R7 (fun b2=>zN (zS (T.drawE (l1 := [0, 1, 2, 3, 4, 5, 6, 7, 8, 9, 10, 11, 12, 13]) (l2 := [14]) (by kernel_rfl) (by kernel_rfl) (yR R4 (vR (p := 1) R6) (yL R4 (Val.nil_ptr rfl) (yL R4 (Val.faddr_ptr (fo := 3) rfl rfl rfl) (yR R4 (Val.load_rowM h_x M2 ⟨_, rfl, rfl⟩ rfl rfl rfl) (yR R4 (Val.len_l h_x_leaves M2 rfl rfl) (yR R4 (vR (p := 1) R6) (yL R4 (Val.nil_ptr rfl) (yL R4 (Val.faddr_ptr (fo := 0) rfl rfl rfl) (yL R4 (Val.faddr_ptr (fo := 2) rfl rfl rfl) (yR R4 (Val.load_rowM h_x M2 ⟨_, rfl, rfl⟩ rfl rfl rfl) (yR R4 (Val.len_l h_x_CpCase_Items M2 rfl rfl) ?_)))))))))))))))));obtain ⟨hk16, h⟩ := chk_some h;refine yL R4 (Val.mul rfl rfl hk16) ?_;obtain ⟨hk17, h⟩ := chk_some h;refine yL R4 (Val.add rfl rfl hk17) (yL R4 (Val.faddr_ptr (fo := 0) rfl rfl rfl) (TD1.over (fun v => sameC_refl v) (all_cons (⟨_, rfl, (Val.len_l h_x_CpCase_Items M2 rfl rfl)⟩) (all_cons (⟨_, rfl, (Val.load_rowM h_x M2 ⟨_, rfl, rfl⟩ rfl rfl rfl)⟩) (all_cons (⟨_, rfl, (vR (p := 1) R6)⟩) (all_cons (⟨_, rfl, (Val.len_l h_x_leaves M2 rfl rfl)⟩) (all_cons (⟨_, rfl, (Val.load_rowM h_x M2 ⟨_, rfl, rfl⟩ rfl rfl rfl)⟩) (all_cons (⟨_, rfl, (vR (p := 1) R6)⟩) all_nil)))))) (TD2.heavy (fun v => sameC_refl v) rfl (by decide) rfl rfl (OpS.eff (Eff.store_row (p := 0) (cv := [_]) (cells' := [_, _]) rfl rfl rfl rfl rfl rfl rfl rfl aG (by decide) rfl)) ?_)));rintro _ _ rfl;refine ⟨(all_cons (.inl (by kernel_rfl)) (all_cons (.inl (by kernel_rfl)) (all_cons (.inl (by kernel_rfl)) (all_cons (.inl (by kernel_rfl)) (all_cons (.inl (by kernel_rfl)) (all_cons (.inl (by kernel_rfl)) all_nil)))))), all_nil, ?_⟩;refine yG (_::_::C) rfl (TD2.nil ?_)
 show T _ _ _ _ _ _;apply T.joinA (r := r) (W := Nat) (fun j w => ⟨[w], [(2, .ptr b2 0 2)], .obj w (.dfr true) :: .row b2 2 [iv (j.1), iv (j.2)] :: .row b1 1 [.ptr id_x 0 5] :: C⟩) h
 ·intro j h;refine zU rfl (zL 1 R3 R6 (TO.callIn rfl rfl rfl rfl rfl rfl (orcN rfl) (TF.enter (fn := Go.Proofs.Tryz.f54) rfl rfl rfl rfl rfl (zU rfl (zQ 1 [_] R7 (fun b1_2=>zA R4 (zN (zU rfl (zV R3 (Val.makeFunc rfl rfl) (zA R4 (zN (zR ?_))))))))))));refine ⟨rfl, _, rfl, ?_⟩;refine zN (zB ?_);obtain ⟨hkR1, h⟩ := chk_some h
  show T _ _ _ _ _ _;apply T.rangeP (r := j) (W := Unit) (w0 := ()) ArgT (fun (j : Int × Int) (w : Unit) => [.row b2 2 [iv (j.1), iv (j.2)]]) (.row b1_2 1 [.ptr id_x 0 5] :: .row b1 1 [.ptr id_x 0 5] :: C) h
  ·rfl
  ·rfl
  ·rfl
  ·exact (pk [1] rfl)
  ·exact tr_yields (List.mem_of_getElem? (i := 0) rfl) (M2 _ h_x) (Rdl.mono h_x_CpCase_Items M2) hkR1
  ·rintro l1 d ⟨s_Lo, s_Hi⟩ _ t vs G F1 ans hmem harg hD hG h;unfold P_c_wide_L1 at h;dsimp only at h;obtain ⟨v_t, rfl, rfl⟩ := harg
   have h_t : Rdl F1 encI v_t t := .inr ⟨false, hG _ (by simp)⟩
   have hCF : ∀ x ∈ C, x ∈ F1 := fun x hx => hD x (memS M1 x hx)
   replace h_x_CpCase_Book_Gatherings := Rdl.mono h_x_CpCase_Book_Gatherings hCF;replace h_x_CpCase_Items := Rdl.mono h_x_CpCase_Items hCF;replace h_x_leaves := Rdl.mono h_x_leaves hCF;replace h_x_mates := Rdl.mono h_x_mates hCF;replace h_x := hCF _ h_x
   have hu1_t3 : Thing.row b1_2 1 [.ptr id_x 0 5] ∈ F1 := (hD _ (List.mem_of_getElem? (i := 0) rfl))
   have hu1_t1 : Thing.row b1 1 [.ptr id_x 0 5] ∈ F1 := (hD _ (List.mem_of_getElem? (i := 1) rfl));refine ⟨_, rfl, fun LR1 LB1 hLB1 => ?_⟩;refine T.things (hs' := LR1 :: .row b2 2 [iv (s_Lo), iv (s_Hi)] :: F1) rfl (zT rfl (zA R4 (zN ?_)));refine ⟨rfl, 0, rfl, ?_⟩;refine T.things (hs' := LB1 :: .row b2 2 [iv (s_Lo), iv (s_Hi)] :: F1) rfl (zB (zU rfl (zV R3 (Val.load_rowM hu1_t1 M2 ⟨_, rfl, rfl⟩ rfl rfl rfl) (zM R4 ?_))));obtain ⟨⟨y24, y24_2, y24_3, y24_4, y24_5, y24_6, y24_7⟩, hr24, h⟩ := andx_some h;dsimp only at h;refine TO.callT (first := []) (cap := []) (vs := [.ptr id_x 0 5, v_t]) rfl rfl rfl rfl rfl rfl (orcN rfl) (tf_c_faults aD (Rdl.mono h_x_CpCase_Book_Gatherings M2) (Rdl.mono h_x_CpCase_Items M2) (Rdl.mono h_x_leaves M2) (Rdl.mono h_x_mates M2) (M2 _ h_x) (Rdl.mono h_t M2) hr24) ?_;rintro ⟨w24, w24_2, w24_3, w24_4, w24_5⟩;refine zG (_::_::_::_::_::_::_::F1) rfl (zV R3 (Val.field (k := 0) rfl rfl rfl rfl rfl) (zA R4 (zN (zT rfl (zF 0 R6 (zL 6 R3 R6 (zM R4 (zV R3 (Val.bmin rfl rfl) (zF 1 R6 (zL 6 R3 R6 (zM R4 (zV R3 (Val.bmax rfl rfl) (zV R3 (Val.buildC (cs := [_, _]) (vs := [(_, _), (_, _)]) (ws := [(_, [_]), (_, [_])]) rfl rfl (CellsL.cons rfl (CellsL.cons rfl CellsL.nil)) rfl) (TO.eff0 rfl rfl (Eff.store_row (p := 6) (cv := [_, _]) (cells' := [_, _]) rfl rfl rfl rfl rfl rfl rfl rfl aG (by decide) rfl) ?_))))))))))))));rintro _ rfl;refine zG (_::_::_::_::_::_::_::F1) rfl (zN ?_);cases h;exact ⟨rfl, (), (pk [5,5,98,98,98,98,98] rfl)⟩
  ·rintro d ⟨s_Lo, s_Hi⟩ _ h;dsimp only at h;cases h;exact ⟨rfl, d, (sb (pk [0,0,1,98] rfl))⟩
 ·rintro ⟨s_Lo, s_Hi⟩ iddfr1 h;dsimp only at h;dsimp only;refine zU rfl (zV R3 (vW 1 [_,_] R5 R4) (TO.eff0 rfl rfl (Eff.store_row (p := 1) (cv := [_, _]) (cells' := [_, _]) rfl rfl rfl rfl rfl rfl rfl rfl aG (by decide) rfl) ?_));rintro _ rfl;refine zG (_::_::_::C) rfl (zN (zR ?_));cases h;exact ⟨rfl, _, ⟨0, rfl, rfl⟩, [_], ⟨⟨_, rfl, LoadR.rows (p := 0) (c := [_, _]) rfl ⟨⟨_, rfl, rfl⟩, rfl, by decide⟩ rfl rfl rfl⟩, trivial⟩, ⟨(), rfl, (pk [98,98] rfl)⟩⟩
set_option maxRecDepth 10000 in
theorem tf_c_open {k : Nat} (hk : 5 ≤ k) {C : List Thing} {c_Book_Signed : Int} {v_c_Book_Gatherings : AV} {c_Book_Gatherings : List Gat} {v_c_Items : AV} {c_Items : List Item} (h_c_Book_Gatherings : Rdl C encG v_c_Book_Gatherings c_Book_Gatherings) (h_c_Items : Rdl C encIt v_c_Items c_Items) {r : Sum (Int × Int × Int) (Int × (GS encL) × (List Int) × Int × Int × Int)} (h : P_c_open c_Book_Signed c_Book_Gatherings c_Items = some r) :
  TF (EL k) 40 [.agg [iv (c_Book_Signed), v_c_Book_Gatherings, v_c_Items]] C (RepS (fun (r : Int × Int × Int) => RepF (fun (w : Unit) => .tuple [.lit (.pointer none), iv r.1, iv r.2.1, iv r.2.2]) (fun (w : Unit) => C)) (fun (r : Int × (GS encL) × (List Int) × Int × Int × Int) => RepF (fun (w : Nat × AV) => .tuple [.ptr w.1 0 5, iv r.2.2.2.1, iv r.2.2.2.2.1, iv r.2.2.2.2.2]) (fun (w : Nat × AV) => .row w.1 5 [iv r.1, v_c_Book_Gatherings, v_c_Items, r.2.1.v, w.2] :: ownL true w.2 encI r.2.2.1 :: C)) r) := by
 unfold P_c_open at h;refine TF.enter (fn := Go.Proofs.Tryz.f40) rfl rfl rfl rfl rfl (zU rfl (zQ 3 [_,_,_] R7 (fun b1=>zA R4 (zA R4 (zA R4 (zA R4 (zN (zS (zU rfl (zF 0 R6 (zV R3 (vW 0 [_,_] R5 R4) ?_)))))))))));obtain ⟨⟨part21, at_21, e21⟩, hr21, h⟩ := andx_some h;dsimp only at h;obtain ⟨g, hgg, hrg⟩ := Rdl.reif (hs := .row b1 3 [iv (c_Book_Signed), v_c_Book_Gatherings, v_c_Items] :: C) h_c_Book_Gatherings M1 (ReifL.flat encG_tr);refine TO.call rfl rfl rfl rfl rfl (orcL rfl aD) (.cons (.agg (.cons .lit (.cons (hrg _) .nil))) .nil) (sem_of (w_q_Check c_Book_Signed g _ (by try rw [hgg]; exact hr21))) (zM R4 (zX R5 (zX R5 (zX R5 (zA R4 (zN (zU rfl (zM R4 ?_))))))));obtain ⟨c26, hc26⟩ := zY (¬ e21 = 0);refine zV R3 (Val.neq hc26 rfl rfl) (zN ?_);obtain ⟨rfl, hc26, h⟩ | ⟨rfl, hc26, h⟩ := zI hc26 h
 ·refine zC rfl (zU rfl (zM R4 (zA R4 (zA R4 (zA R4 (zA R4 (zN (zR ?_))))))));cases h;exact ⟨rfl, _, rfl, ⟨(), rfl, (pk [98] rfl)⟩⟩
 refine zD rfl (zK (zU rfl (zF 0 R6 (zV R3 (vW 0 [_,_] R5 R4) ?_))));obtain ⟨⟨leaves31, e31⟩, hr31, h⟩ := andx_some h;dsimp only at h;obtain ⟨g_2, hgg_2, hrg_2⟩ := Rdl.reif (hs := .row b1 3 [iv (c_Book_Signed), v_c_Book_Gatherings, v_c_Items] :: C) h_c_Book_Gatherings M1 (ReifL.flat encG_tr);refine TO.call rfl rfl rfl rfl rfl (orcL rfl aD) (.cons (.agg (.cons .lit (.cons (hrg_2 _) .nil))) .nil) (sem_of (w_q_Leaves c_Book_Signed g_2 _ (by try rw [hgg_2]; exact hr31))) (zM R4 (zX R5 (zX R5 (zA R4 (zA R4 (zN (zS (zU rfl (zM R4 (zV R3 (Val.len_gs rfl rfl) ?_))))))))));obtain ⟨c36, hc36⟩ := zY ((leaves31.length : Int) > 120);refine zV R3 (Val.gtr hc36 rfl rfl) (zN ?_);obtain ⟨rfl, hc36, h⟩ | ⟨rfl, hc36, h⟩ := zI hc36 h
 ·refine zC rfl (zU rfl (zA R4 (zA R4 (zA R4 (zA R4 (zN (zR ?_)))))));cases h;exact ⟨rfl, _, rfl, ⟨(), rfl, (pk [98] rfl)⟩⟩
 refine zD rfl (zK (zS (zU rfl (zF 2 R6 (zL 0 R3 R6 (zV R3 (Val.len_l h_c_Items M1 rfl rfl) ?_))))));obtain ⟨c40, hc40⟩ := zY ((c_Items.length : Int) > 120);refine zV R3 (Val.gtr hc40 rfl rfl) (zN ?_);obtain ⟨rfl, hc40, h⟩ | ⟨rfl, hc40, h⟩ := zI hc40 h
 ·refine zC rfl (zU rfl (zA R4 (zA R4 (zA R4 (zA R4 (zN (zR ?_)))))));cases h;exact ⟨rfl, _, rfl, ⟨(), rfl, (pk [98] rfl)⟩⟩
 refine zD rfl (zK ?_)
 show T _ _ _ _ _ _;apply T.join (r := r) (W := Unit) (fun j w => ⟨[], [(1, .ptr b1 0 3), (6, (GSo true encL leaves31).v)], .row b1 3 [iv (c_Book_Signed), v_c_Book_Gatherings, v_c_Items] :: C⟩) h
 ·intro j h;refine zU rfl (zF 2 R6 (zL 0 R3 R6 (zV R3 (Val.len_l h_c_Items M1 rfl rfl) (zM R4 (zN (zB ?_))))))
  show T _ _ _ _ _ _;apply T.iter (r := j) (W := Unit) (fun j w => ⟨[], [(1, .ptr b1 0 3), (6, (GSo true encL leaves31).v), (42, v_c_Items), (43, iv ((c_Items.length : Int))), (44, iv (j))], .row b1 3 [iv (c_Book_Signed), v_c_Book_Gatherings, v_c_Items] :: C⟩) (w0 := ()) h
  ·exact (sb .refl)
  rintro x44 _ a h;unfold P_c_open_L1 at h;refine zU rfl ?_;obtain ⟨c45, hc45⟩ := zY (x44 < (c_Items.length : Int));refine zV R3 (Val.lss hc45 rfl rfl) (zN (zS ?_));obtain ⟨rfl, hc45, h⟩ | ⟨rfl, hc45, h⟩ := zI hc45 h
  ·refine zC rfl (zK ?_)
   show T _ _ _ _ _ _;apply T.join (r := a) (W := Unit) (fun j w => ⟨[], [(1, .ptr b1 0 3), (6, (GSo true encL leaves31).v), (42, v_c_Items), (43, iv ((c_Items.length : Int))), (44, iv (x44))], .row b1 3 [iv (c_Book_Signed), v_c_Book_Gatherings, v_c_Items] :: C⟩) h
   ·intro j h;refine zB (zU rfl (zM R4 ?_));obtain ⟨a47, hia47, ea47, h⟩ := el_some h;refine TO.fact (rdl_at h_c_Items M1 hia47 ea47) (fun hp=>?_);obtain ⟨pa47, hpa47, hva47⟩ := hp;refine zV R3 (hva47 ⟨rfl, rfl⟩ rfl rfl) (zV R3 (Val.load_es (c := [_]) hpa47 M1 ⟨⟨_, rfl, rfl⟩, rfl, by decide⟩ rfl rfl rfl) (zJ 1 [_] R7 (fun b9=>zA R4 (TO.eff0 rfl rfl (Eff.store_row (p := 0) (cv := [_]) (cells' := [_]) rfl rfl rfl rfl rfl rfl rfl rfl aG (by decide) rfl) ?_))));rintro _ rfl;refine zG (_::_::C) rfl (zN (zS (zB (zU rfl (zF 0 R6 (zL 0 R3 R6 (zV R3 (Val.len_gs rfl rfl) ?_)))))));obtain ⟨c53, hc53⟩ := zY ((a47.could.l.length : Int) > 4);refine zV R3 (Val.gtr hc53 rfl rfl) (zA R4 (zN ?_));obtain ⟨rfl, hc53, h⟩ | ⟨rfl, hc53, h⟩ := zI hc53 h
    ·refine zC rfl (zU rfl (zM R4 (zA R4 (zA R4 (zA R4 (zA R4 (zN (zR ?_))))))));cases h;exact ⟨ret_ne, ⟨ret_ne, ⟨ret_ne, ⟨rfl, _, rfl, ⟨(), rfl, (pk [98,98] rfl)⟩⟩⟩⟩⟩
    refine zD rfl (zU rfl (zM R4 (zV R3 (Val.len_gs rfl rfl) ?_)));obtain ⟨hk58, h⟩ := chk_some h;refine zV R3 (Val.sub rfl rfl hk58) (zF 0 R6 (zL 0 R3 R6 ?_));obtain ⟨out61, hr61, h⟩ := andx_some h;refine TO.call rfl rfl rfl rfl rfl (orcL rfl aD) (.cons .lit (.cons .lit (.cons .gs .nil))) (sem_of (w_c_outside 0 ((leaves31.length : Int) - 1) a47.could _ (by exact hr61))) (zA R4 (zN ?_));obtain ⟨rfl, h⟩ | ⟨rfl, h⟩ := zZ h
    ·refine zC rfl (zU rfl (zM R4 (zA R4 (zA R4 (zA R4 (zA R4 (zN (zR ?_))))))));cases h;exact ⟨ret_ne, ⟨ret_ne, ⟨ret_ne, ⟨rfl, _, rfl, ⟨(), rfl, (pk [98,98] rfl)⟩⟩⟩⟩⟩
    refine zD rfl (zK (zU rfl (zF 0 R6 (zL 0 R3 R6 (zV R3 (Val.len_gs rfl rfl) (zM R4 (zN (zB ?_))))))))
    show T _ _ _ _ _ _;apply T.iter (r := j) (W := Unit) (fun j w => ⟨[], [(1, .ptr b1 0 3), (6, (GSo true encL leaves31).v), (8, iv (x44)), (9, .ptr b9 0 1), (42, v_c_Items), (43, iv ((c_Items.length : Int))), (44, iv (x44)), (64, a47.could.v), (65, iv ((a47.could.l.length : Int))), (66, iv (j))], .row b9 1 [a47.could.v] :: .row b1 3 [iv (c_Book_Signed), v_c_Book_Gatherings, v_c_Items] :: C⟩) (w0 := ()) h
    ·exact (sb .refl)
    rintro x66 _ a h;unfold P_c_open_L2 at h;refine zU rfl ?_;obtain ⟨c67, hc67⟩ := zY (x66 < (a47.could.l.length : Int));refine zV R3 (Val.lss hc67 rfl rfl) (zN (zS ?_));obtain ⟨rfl, hc67, h⟩ | ⟨rfl, hc67, h⟩ := zI hc67 h
    ·refine zC rfl (zK ?_)
     show T _ _ _ _ _ _;apply T.join (r := a) (W := Unit) (fun j w => ⟨[], [(1, .ptr b1 0 3), (6, (GSo true encL leaves31).v), (8, iv (x44)), (9, .ptr b9 0 1), (42, v_c_Items), (43, iv ((c_Items.length : Int))), (44, iv (x44)), (64, a47.could.v), (65, iv ((a47.could.l.length : Int))), (66, iv (x66))], .row b9 1 [a47.could.v] :: .row b1 3 [iv (c_Book_Signed), v_c_Book_Gatherings, v_c_Items] :: C⟩) h
     ·intro j h;refine zB (zU rfl (zM R4 ?_));obtain ⟨a69, hia69, ea69, h⟩ := el_some h;refine TO.fact (rdl_at (Rdl.gs (C := C) a47.could) M2 hia69 ea69) (fun hp=>?_);obtain ⟨pa69, hpa69, hva69⟩ := hp;refine zV R3 (hva69 ⟨rfl, rfl⟩ rfl rfl) (zV R3 (Val.load_e hpa69 M2 ⟨_, rfl, rfl⟩ rfl rfl) (zA R4 (zA R4 (zN ?_))))
      show T _ _ _ _ _ _;apply T.joinA (r := j) (W := Unit) (fun j w => ⟨[], [(1, .ptr b1 0 3), (6, (GSo true encL leaves31).v), (8, iv (x44)), (9, .ptr b9 0 1), (42, v_c_Items), (43, iv ((c_Items.length : Int))), (44, iv (x44)), (64, a47.could.v), (65, iv ((a47.could.l.length : Int))), (66, iv (x66)), (82, bv j)], .row b9 1 [a47.could.v] :: .row b1 3 [iv (c_Book_Signed), v_c_Book_Gatherings, v_c_Items] :: C⟩) h
      ·intro j h;refine zT rfl (zM R4 ?_);obtain ⟨c72, hc72⟩ := zY (x66 > 0);refine zV R3 (Val.gtr hc72 rfl rfl) (zM R4 ?_);obtain ⟨rfl, hc72, h⟩ | ⟨rfl, hc72, h⟩ := zI hc72 h
       ·refine zM R4 (zF 0 R6 (zL 0 R3 R6 (zM R4 ?_)));obtain ⟨hk78, h⟩ := chk_some h;refine zV R3 (Val.sub rfl rfl hk78) ?_;obtain ⟨a79, hia79, ea79, h⟩ := el_some h;refine TO.fact (rdl_at (Rdl.gs (C := C) a47.could) M2 hia79 ea79) (fun hp=>?_);obtain ⟨pa79, hpa79, hva79⟩ := hp;refine zV R3 (hva79 ⟨rfl, rfl⟩ rfl rfl) (zV R3 (Val.load_e hpa79 M2 ⟨_, rfl, rfl⟩ rfl rfl) ?_);obtain ⟨c81, hc81⟩ := zY (a69 ≤ a79);refine zV R3 (Val.leq hc81 rfl rfl) (zP R6 (zN ?_));subst hc81;cases h;exact ⟨rfl, (), (sb .refl)⟩
       refine zO R3 (zO R3 (zO R3 (zO R3 (zO R3 (zO R3 (zO R3 (zO R3 (zP R6 (zN ?_)))))))));cases h;exact ⟨rfl, (), (sb .refl)⟩
      ·rintro x82 _ h;obtain ⟨rfl, h⟩ | ⟨rfl, h⟩ := zZ h
       ·refine zC rfl (zU rfl (zM R4 (zA R4 (zA R4 (zA R4 (zA R4 (zN (zR ?_))))))));cases h;exact ⟨ret_ne, ⟨ret_ne, ⟨ret_ne, ⟨ret_ne, ⟨ret_ne, ⟨rfl, _, rfl, ⟨(), rfl, (pk [98,98] rfl)⟩⟩⟩⟩⟩⟩⟩
       refine zD rfl (zK ?_);cases h;exact ⟨rfl, (), (sb .refl)⟩
     ·rintro _ _ h;refine zT rfl ?_;obtain ⟨hk84, h⟩ := chk_some h;refine zV R3 (Val.add rfl rfl hk84) (zM R4 (zN ?_));cases h;exact ⟨rfl, (), (sb .refl)⟩
    refine zD rfl (zE ?_);cases h;exact ⟨ex_ne, ⟨rfl, (), (sb (pk [1,98] rfl))⟩⟩
   ·rintro _ _ h;refine zT rfl ?_;obtain ⟨hk85, h⟩ := chk_some h;refine zV R3 (Val.add rfl rfl hk85) (zM R4 (zN ?_));cases h;exact ⟨rfl, (), (sb .refl)⟩
  refine zD rfl (zE ?_);cases h;exact ⟨ex_ne, ⟨rfl, (), (sb .refl)⟩⟩
 ·rintro _ _ h;refine zU rfl (zA R4 (zN ?_))
  show T _ _ _ _ _ _;apply T.join (r := r) (W := Unit) (fun j w => ⟨[], [(1, .ptr b1 0 3), (6, (GSo true encL leaves31).v)], .row b1 3 [iv (c_Book_Signed), v_c_Book_Gatherings, v_c_Items] :: C⟩) h
  ·intro j h;refine zU rfl (zF 2 R6 (zL 0 R3 R6 (zV R3 (Val.len_l h_c_Items M1 rfl rfl) (zM R4 (zN (zB ?_))))))
   show T _ _ _ _ _ _;apply T.iter (r := j) (W := Unit) (fun j w => ⟨[], [(1, .ptr b1 0 3), (6, (GSo true encL leaves31).v), (12, iv (j.1)), (87, v_c_Items), (88, iv ((c_Items.length : Int))), (89, iv (j.2))], .row b1 3 [iv (c_Book_Signed), v_c_Book_Gatherings, v_c_Items] :: C⟩) (w0 := ()) h
   ·exact (sb .refl)
   rintro ⟨doubts, x89⟩ _ a h;unfold P_c_open_L3 at h;dsimp only at h;dsimp only;refine zU rfl ?_;obtain ⟨c90, hc90⟩ := zY (x89 < (c_Items.length : Int));refine zV R3 (Val.lss hc90 rfl rfl) (zN (zS ?_));obtain ⟨rfl, hc90, h⟩ | ⟨rfl, hc90, h⟩ := zI hc90 h
   ·refine zC rfl (zK ?_)
    show T _ _ _ _ _ _;apply T.join (r := a) (W := Unit) (fun j w => ⟨[], [(1, .ptr b1 0 3), (6, (GSo true encL leaves31).v), (12, iv (j)), (87, v_c_Items), (88, iv ((c_Items.length : Int))), (89, iv (x89))], .row b1 3 [iv (c_Book_Signed), v_c_Book_Gatherings, v_c_Items] :: C⟩) h
    ·intro j h;refine zB (zU rfl (zM R4 ?_));obtain ⟨a92, hia92, ea92, h⟩ := el_some h;refine TO.fact (rdl_at h_c_Items M1 hia92 ea92) (fun hp=>?_);obtain ⟨pa92, hpa92, hva92⟩ := hp;refine zV R3 (hva92 ⟨rfl, rfl⟩ rfl rfl) (zV R3 (Val.load_es (c := [_]) hpa92 M1 ⟨⟨_, rfl, rfl⟩, rfl, by decide⟩ rfl rfl rfl) (zJ 1 [_] R7 (fun b14=>zA R4 (TO.eff0 rfl rfl (Eff.store_row (p := 0) (cv := [_]) (cells' := [_]) rfl rfl rfl rfl rfl rfl rfl rfl aG (by decide) rfl) ?_))));rintro _ rfl;refine zG (_::_::C) rfl (zN ?_)
     show T _ _ _ _ _ _;apply T.joinA (r := j) (W := Unit) (fun j w => ⟨[], [(1, .ptr b1 0 3), (6, (GSo true encL leaves31).v), (12, iv (j)), (13, iv (x89)), (87, v_c_Items), (88, iv ((c_Items.length : Int))), (89, iv (x89))], .row b14 1 [a92.could.v] :: .row b1 3 [iv (c_Book_Signed), v_c_Book_Gatherings, v_c_Items] :: C⟩) h
     ·intro j h;refine zU rfl (zF 0 R6 (zL 0 R3 R6 (zV R3 (Val.len_gs rfl rfl) ?_)));obtain ⟨c97, hc97⟩ := zY ((a92.could.l.length : Int) > 1);refine zV R3 (Val.gtr hc97 rfl rfl) (zN ?_);obtain ⟨rfl, hc97, h⟩ | ⟨rfl, hc97, h⟩ := zI hc97 h
      ·refine zC rfl (zT rfl (zM R4 ?_));obtain ⟨hk99, h⟩ := chk_some h;refine zV R3 (Val.add rfl rfl hk99) (zA R4 (zN ?_));cases h;exact ⟨rfl, (), (sb .refl)⟩
      refine zD rfl (zK ?_);cases h;exact ⟨rfl, (), (sb .refl)⟩
     ·rintro doubts_2 _ h;refine zU rfl (zM R4 ?_);obtain ⟨c101, hc101⟩ := zY (doubts_2 > 3);refine zV R3 (Val.gtr hc101 rfl rfl) (zN ?_);obtain ⟨rfl, hc101, h⟩ | ⟨rfl, hc101, h⟩ := zI hc101 h
      ·refine zC rfl (zU rfl (zM R4 (zA R4 (zA R4 (zA R4 (zA R4 (zN (zR ?_))))))));cases h;exact ⟨ret_ne, ⟨ret_ne, ⟨ret_ne, ⟨rfl, _, rfl, ⟨(), rfl, (pk [98,98] rfl)⟩⟩⟩⟩⟩
      refine zD rfl (zK ?_);cases h;exact ⟨rfl, (), (sb (pk [1,98] rfl))⟩
    ·rintro doubts_2 _ h;refine zT rfl ?_;obtain ⟨hk103, h⟩ := chk_some h;refine zV R3 (Val.add rfl rfl hk103) (zM R4 (zN ?_));cases h;exact ⟨rfl, (), (sb .refl)⟩
   refine zD rfl (zE ?_);cases h;exact ⟨ex_ne, ⟨rfl, (), (sb .refl)⟩⟩
  ·rintro _ _ h;refine zU rfl (zV R3 (vW 0 [_,_,_] R5 R4) (zM R4 (zV R3 (Val.buildC (cs := [_, _, _, _, _]) (vs := [(_, _), (_, _)]) (ws := [(_, [_, _, _]), (_, [_])]) rfl rfl (CellsL.cons rfl (CellsL.cons (GS.cells (GSo true encL leaves31)).1 CellsL.nil)) rfl) (zQ 5 [_,_,_,_,_] R7 (fun b107=>zA R4 (zN ?_))))))
   show T _ _ _ _ _ _;apply T.joinA (r := r) (W := AV) (fun j w => ⟨[], [(2, .ptr b107 0 5)], ownL true w encI j :: .row b107 5 [iv (c_Book_Signed), v_c_Book_Gatherings, v_c_Items, (GSo true encL leaves31).v, w] :: .row b1 3 [iv (c_Book_Signed), v_c_Book_Gatherings, v_c_Items] :: C⟩) h
   ·intro j h;refine zU rfl (zM R4 (zV R3 (Val.len_gs rfl rfl) (zM R4 (zN (zB (T.nilown (u := encI.u) ?_))))))
    show T _ _ _ _ _ _;apply T.iter (r := j) (W := AV) (fun j w => ⟨[], [(1, .ptr b1 0 3), (2, .ptr b107 0 5), (109, iv ((leaves31.length : Int))), (110, iv (j.1))], ownL true w encI j.2 :: .row b107 5 [iv (c_Book_Signed), v_c_Book_Gatherings, v_c_Items, (GSo true encL leaves31).v, w] :: .row b1 3 [iv (c_Book_Signed), v_c_Book_Gatherings, v_c_Items] :: C⟩) (w0 := nilS) h
    ·exact (sb .refl)
    rintro ⟨x110, b107_mates⟩ v5 a h;unfold P_c_open_L4 at h;dsimp only at h;dsimp only;refine zU rfl ?_;obtain ⟨c111, hc111⟩ := zY (x110 < (leaves31.length : Int));refine zV R3 (Val.lss hc111 rfl rfl) (zN (zS ?_));obtain ⟨rfl, hc111, h⟩ | ⟨rfl, hc111, h⟩ := zI hc111 h
    ·refine zC rfl (zK ?_)
     show T _ _ _ _ _ _;apply T.joinA (r := a) (W := AV) (fun j w => ⟨[], [(1, .ptr b1 0 3), (2, .ptr b107 0 5), (109, iv ((leaves31.length : Int))), (110, iv (x110))], ownL true w encI j :: .row b107 5 [iv (c_Book_Signed), v_c_Book_Gatherings, v_c_Items, (GSo true encL leaves31).v, w] :: .row b1 3 [iv (c_Book_Signed), v_c_Book_Gatherings, v_c_Items] :: C⟩) h
     ·intro j h;refine zB (zU rfl (zM R4 (zA R4 (zN (zU rfl (zF 0 R6 (zV R3 (vW 2 [_,_] R5 R4) (zM R4 ?_))))))));obtain ⟨⟨mate117, e117⟩, hr117, h⟩ := andx_some h;dsimp only at h;obtain ⟨g_3, hgg_3, hrg_3⟩ := Rdl.reif (hs := ownL true v5 encI b107_mates :: .row b107 5 [iv (c_Book_Signed), v_c_Book_Gatherings, v_c_Items, (GSo true encL leaves31).v, v5] :: .row b1 3 [iv (c_Book_Signed), v_c_Book_Gatherings, v_c_Items] :: C) h_c_Book_Gatherings M3 (ReifL.flat encG_tr);refine TO.call rfl rfl rfl rfl rfl (orcL rfl aD) (.cons (.agg (.cons .lit (.cons (hrg_3 _) .nil))) (.cons .lit .nil)) (sem_of (w_q_Mate c_Book_Signed g_3 x110 _ (by try rw [hgg_3]; exact hr117))) (zM R4 (zX R5 (zX R5 (zA R4 (zA R4 (zN ?_))))))
      show T _ _ _ _ _ _;apply T.joinA (r := j) (W := Unit) (fun j w => ⟨[], [(1, .ptr b1 0 3), (2, .ptr b107 0 5), (16, iv (j)), (109, iv ((leaves31.length : Int))), (110, iv (x110))], ownL true v5 encI b107_mates :: .row b107 5 [iv (c_Book_Signed), v_c_Book_Gatherings, v_c_Items, (GSo true encL leaves31).v, v5] :: .row b1 3 [iv (c_Book_Signed), v_c_Book_Gatherings, v_c_Items] :: C⟩) h
      ·intro j h;refine zU rfl (zM R4 ?_);obtain ⟨c121, hc121⟩ := zY (¬ e117 = 0);refine zV R3 (Val.neq hc121 rfl rfl) (zN ?_);obtain ⟨rfl, hc121, h⟩ | ⟨rfl, hc121, h⟩ := zI hc121 h
       ·refine zC rfl (zT rfl (zA R4 (zN ?_)));cases h;exact ⟨rfl, (), (sb .refl)⟩
       refine zD rfl (zK ?_);cases h;exact ⟨rfl, (), (sb .refl)⟩
      ·rintro m _ h;refine zT rfl (zM R4 (zM R4 (zV R3 (Val.nil_ptr rfl) (zF 4 R6 (zL 1 R3 R6 (zM R4 (TO.build1 (en := encI) (a := m) rfl rfl rfl ⟨rfl, rfl⟩ ⟨_, rfl, rfl⟩ (by decide) (by decide) rfl rfl (fun v128=>?_))))))));obtain ⟨hk129, h⟩ := chk_some h;refine TO.eff rfl rfl rfl (Eff.append_own (b := 8) (en := encI) (l := b107_mates) (l2 := [m]) (p := 1) (q := 0) ⟨rfl, rfl, rfl, ⟨_, rfl, rfl⟩, by decide, by decide⟩ rfl rfl rfl rfl rfl rfl (flat_ones _) (by decide) hk129) ?_;rintro v129 _ rfl;refine zG (_::_::_::_::C) rfl (zV R3 (Val.nil_ptr rfl) (zF 4 R6 (TO.fact (own_cellS (p := 1) rfl) (fun hot5=>TO.eff0 rfl rfl (Eff.store_row (p := 2) (cv := [_]) (cells' := [_, _, _, _, _]) rfl rfl rfl rfl rfl hot5.1 rfl rfl (by first | rfl | (simp [GS.one, hot5.2]; done)) (by decide) rfl) ?_))));rintro _ rfl;refine zG (_::_::_::_::C) rfl (zN ?_);cases h;exact ⟨rfl, v129, (sb (pk [1,1,1,98] rfl))⟩
     ·rintro b107_mates_2 v5_2 h;refine zT rfl ?_;obtain ⟨hk132, h⟩ := chk_some h;refine zV R3 (Val.add rfl rfl hk132) (zM R4 (zN ?_));cases h;exact ⟨rfl, v5_2, (sb .refl)⟩
    refine zD rfl (zE ?_);cases h;exact ⟨ex_ne, ⟨rfl, v5, (sb .refl)⟩⟩
   ·rintro b107_mates v5 h;refine zU rfl (zM R4 (zA R4 (zA R4 (zA R4 (zA R4 (zN (zR ?_)))))));cases h;exact ⟨rfl, _, rfl, ⟨(b107, v5), rfl, (pk [1,0,98] rfl)⟩⟩
set_option maxRecDepth 10000 in
theorem tf_c_Check {k : Nat} (hk : 5 ≤ k) {C : List Thing} {c_Book_Signed : Int} {v_c_Book_Gatherings : AV} {c_Book_Gatherings : List Gat} {v_c_Items : AV} {c_Items : List Item} (ht_c_Book_Gatherings : RdT encG v_c_Book_Gatherings c_Book_Gatherings) (ht_c_Items : RdT encIt v_c_Items c_Items) {r : Int × Int × Int} (h : P_c_Check c_Book_Signed c_Book_Gatherings c_Items = some r) :
  TF (EL k) 28 [.agg [iv (c_Book_Signed), v_c_Book_Gatherings, v_c_Items]] C (RepF (fun (w : Unit) => .tuple [iv r.1, iv r.2.1, iv r.2.2]) (fun (w : Unit) => C)) := by
 unfold P_c_Check at h
 have h_c_Book_Gatherings : Rdl C encG v_c_Book_Gatherings c_Book_Gatherings := RdT.rdl ht_c_Book_Gatherings
 have h_c_Items : Rdl C encIt v_c_Items c_Items := RdT.rdl ht_c_Items;refine TF.enter (fn := Go.Proofs.Tryz.f28) rfl rfl rfl rfl rfl (zU rfl (zQ 3 [_,_,_] R7 (fun b1=>zA R4 (zA R4 (zA R4 (zN (zU rfl (zV R3 (vW 0 [_,_,_] R5 R4) ?_))))))));obtain ⟨y7, hr7, h⟩ := andx_some h;cases y7 with
 | inl y7 =>
  obtain ⟨y7_2, y7_3, y7_4⟩ := y7;dsimp only at h;obtain ⟨hkn7, h⟩ := chk_some h;refine TO.callT (first := []) (cap := []) (vs := [.agg [iv (c_Book_Signed), v_c_Book_Gatherings, v_c_Items]]) rfl rfl rfl rfl rfl rfl (orcN rfl) (tf_c_open aD (Rdl.mono h_c_Book_Gatherings M1) (Rdl.mono h_c_Items M1) hr7) ?_;rintro _;refine zG (_::C) rfl (zM R4 (zX R5 (zX R5 (zX R5 (zX R5 (zA R4 (zA R4 (zA R4 (zN (zU rfl (zM R4 (zM R4 (zM R4 (zA R4 (zA R4 (zA R4 (zN (zR ?_))))))))))))))))));cases h;exact ⟨rfl, _, rfl, ⟨(), rfl, (pk [98] rfl)⟩⟩
 | inr y7 =>
  obtain ⟨y7_2, y7_3, y7_4, y7_5, y7_6, y7_7⟩ := y7;dsimp only at h;obtain ⟨hkn7, h⟩ := chk_some h;refine TO.callT (first := []) (cap := []) (vs := [.agg [iv (c_Book_Signed), v_c_Book_Gatherings, v_c_Items]]) rfl rfl rfl rfl rfl rfl (orcN rfl) (tf_c_open aD (Rdl.mono h_c_Book_Gatherings M1) (Rdl.mono h_c_Items M1) hr7) ?_;rintro ⟨w7, w7_2⟩;refine zG (_::_::_::C) rfl (zM R4 (zX R5 (zX R5 (zX R5 (zX R5 (zA R4 (zA R4 (zA R4 (zN (zU rfl (zM R4 (zM R4 (zM R4 (zA R4 (zA R4 (zA R4 (zN (zR ?_))))))))))))))))));cases h;exact ⟨rfl, _, rfl, ⟨(), rfl, (pk [98,98,98] rfl)⟩⟩
theorem w_c_Check (c_Book_Signed : Int) (c_Book_Gatherings : GS encG) (c_Items : GS encIt) (r : Int × Int × Int) (h : P_c_Check c_Book_Signed c_Book_Gatherings.l c_Items.l = some r) : Comes (EL 5) 28 [.agg [iv (c_Book_Signed), c_Book_Gatherings.v, c_Items.v]] (.tuple [iv r.1, iv r.2.1, iv r.2.2]) :=
 TF.run (tf_c_Check (Nat.le_refl _) (RdT.gs c_Book_Gatherings) (RdT.gs c_Items) h) fun w => (.tuple (.cons .lit (.cons .lit (.cons .lit .nil))))
set_option maxRecDepth 10000 in
theorem tf_c_Faults {k : Nat} (hk : 5 ≤ k) {C : List Thing} {c_Book_Signed : Int} {v_c_Book_Gatherings : AV} {c_Book_Gatherings : List Gat} {v_c_Items : AV} {c_Items : List Item} (ht_c_Book_Gatherings : RdT encG v_c_Book_Gatherings c_Book_Gatherings) (ht_c_Items : RdT encIt v_c_Items c_Items) {r : (List Int) × Bool × (List Int) × Bool × Int × (List Int) × Bool × (List Int) × Bool × (List Int) × Bool × Int × Int} (h : P_c_Faults c_Book_Signed c_Book_Gatherings c_Items = some r) :
  TF (EL k) 23 [.agg [iv (c_Book_Signed), v_c_Book_Gatherings, v_c_Items]] C (RepF (fun (w : AV × AV × AV × AV × AV) => .tuple [.agg [w.1, w.2.1, iv r.2.2.2.2.1, w.2.2.1, w.2.2.2.1, w.2.2.2.2, iv r.2.2.2.2.2.2.2.2.2.2.2.1], iv r.2.2.2.2.2.2.2.2.2.2.2.2]) (fun (w : AV × AV × AV × AV × AV) => ownL r.2.1 w.1 encI r.1 :: ownL r.2.2.2.1 w.2.1 encI r.2.2.1 :: ownL r.2.2.2.2.2.2.1 w.2.2.1 encI r.2.2.2.2.2.1 :: ownL r.2.2.2.2.2.2.2.2.1 w.2.2.2.1 encI r.2.2.2.2.2.2.2.1 :: ownL r.2.2.2.2.2.2.2.2.2.2.1 w.2.2.2.2 encI r.2.2.2.2.2.2.2.2.2.1 :: C)) := by
 unfold P_c_Faults at h
 have h_c_Book_Gatherings : Rdl C encG v_c_Book_Gatherings c_Book_Gatherings := RdT.rdl ht_c_Book_Gatherings
 have h_c_Items : Rdl C encIt v_c_Items c_Items := RdT.rdl ht_c_Items;refine TF.enterG (fn := Go.Proofs.Tryz.f23) rfl rfl rfl rfl rfl (zU rfl (zQ 3 [_,_,_] R7 (fun b1=>zJ 7 [_,_,_,_,_,_,_] R7 (fun b2=>zA R4 (zN (T.scope (zU rfl (zV R3 (vW 1 [_,_,_] R5 R4) ?_))))))));obtain ⟨y12, hr12, h⟩ := andx_some h;cases y12 with
 | inl y12 =>
  obtain ⟨y12_2, y12_3, y12_4⟩ := y12;dsimp only at h;obtain ⟨hkn12, h⟩ := chk_some h;refine TO.callT (first := []) (cap := []) (vs := [.agg [iv (c_Book_Signed), v_c_Book_Gatherings, v_c_Items]]) rfl rfl rfl rfl rfl rfl (orcN rfl) (tf_c_open aD (Rdl.mono h_c_Book_Gatherings M2) (Rdl.mono h_c_Items M2) hr12) ?_;rintro _;refine zG (_::_::C) rfl (zM R4 (zX R5 (zX R5 (zX R5 (zX R5 (zJ 1 [_] R7 (fun b4=>TO.eff0 rfl rfl (Eff.store_row (p := 0) (cv := [_]) (cells' := [_]) rfl rfl rfl rfl rfl rfl rfl rfl aG (by decide) rfl) ?_)))))));rintro _ rfl;refine zG (_::_::_::C) rfl (zA R4 (zA R4 (zA R4 (zN (zS (zU rfl (zM R4 ?_)))))));obtain ⟨c18, hc18⟩ := zY (¬ y12_4 = 0);refine zV R3 (Val.neq hc18 rfl rfl) (zN ?_);obtain rfl : c18 = true := hc18.trans (decide_eq_true hkn12);refine zC rfl (zU rfl (zV R3 (vW 1 [_,_,_,_,_,_,_] R5 R4) (zM R4 (TO.eff0 rfl rfl (Eff.store_row (p := 1) (cv := [_, _, _, _, _, _, _]) (cells' := [_, _, _, _, _, _, _]) rfl rfl rfl rfl rfl rfl rfl rfl aG (by decide) rfl) ?_))));rintro _ rfl;refine zG (_::_::_::C) rfl (zA R4 (zN (T.nilown (u := encI.u) (T.nilown (u := encI.u) (T.nilown (u := encI.u) (T.nilown (u := encI.u) (T.nilown (u := encI.u) (zR ?_))))))));cases h;exact ⟨rfl, _, rfl, [_, _], ⟨⟨_, rfl, LoadR.rows (p := 6) (c := [_, _, _, _, _, _, _]) rfl ⟨⟨_, rfl, rfl⟩, rfl, by decide⟩ rfl rfl rfl⟩, ⟨rfl, trivial⟩⟩, ⟨(nilS, nilS, nilS, nilS, nilS), rfl, (pk [4,3,2,1,0,98,98,98] rfl)⟩⟩
 | inr y12 =>
  obtain ⟨y12_2, y12_3, y12_4, y12_5, y12_6, y12_7⟩ := y12;dsimp only at h;obtain ⟨hkn12, h⟩ := chk_some h;refine TO.callT (first := []) (cap := []) (vs := [.agg [iv (c_Book_Signed), v_c_Book_Gatherings, v_c_Items]]) rfl rfl rfl rfl rfl rfl (orcN rfl) (tf_c_open aD (Rdl.mono h_c_Book_Gatherings M2) (Rdl.mono h_c_Items M2) hr12) ?_;rintro ⟨w12, w12_2⟩;refine zG (_::_::_::_::C) rfl (zM R4 (zX R5 (zX R5 (zX R5 (zX R5 (zJ 1 [_] R7 (fun b4=>TO.eff0 rfl rfl (Eff.store_row (p := 0) (cv := [_]) (cells' := [_]) rfl rfl rfl rfl rfl rfl rfl rfl aG (by decide) rfl) ?_)))))));rintro _ rfl;refine zG (_::_::_::_::_::C) rfl (zA R4 (zA R4 (zA R4 (zN (zS (zU rfl (zM R4 ?_)))))));obtain ⟨c18, hc18⟩ := zY (¬ y12_7 = 0);refine zV R3 (Val.neq hc18 rfl rfl) (zN ?_);obtain rfl : c18 = false := hc18.trans (decide_eq_false (fun x => x hkn12));refine zD rfl (zK (zU rfl (zJ 1 [_] R7 (fun b7=>TO.eff0 rfl rfl (Eff.store_row (p := 0) (cv := [_]) (cells' := [_]) rfl rfl rfl rfl rfl rfl rfl rfl aG (by decide) rfl) ?_))));rintro _ rfl;refine zG (_::_::_::_::_::_::C) rfl (zN (zS (T.label ?_)))
  show T _ _ _ _ _ _;apply T.joinA (r := r) (W := Nat × AV × AV × AV × AV × AV) (fun j w => ⟨[w.1], [(2, .ptr b2 0 7)], .obj w.1 (.dfr true) :: ownL j.2.1 w.2.1 encI j.1 :: ownL true w.2.2.1 encI j.2.2.1 :: ownL true w.2.2.2.1 encI j.2.2.2.1 :: ownL true w.2.2.2.2.1 encI j.2.2.2.2.1 :: ownL true w.2.2.2.2.2 encI j.2.2.2.2.2.1 :: .row b7 1 [bv j.2.2.2.2.2.2.1] :: .row b2 7 [w.2.1, w.2.2.1, iv (j.2.2.2.2.2.2.2.1), w.2.2.2.1, w.2.2.2.2.1, w.2.2.2.2.2, iv (j.2.2.2.2.2.2.2.2)] :: .row b4 1 [.ptr w12 0 5] :: .row w12 5 [iv (y12_2), v_c_Book_Gatherings, v_c_Items, y12_3.v, w12_2] :: ownL true w12_2 encI y12_4 :: .row b1 3 [iv (c_Book_Signed), v_c_Book_Gatherings, v_c_Items] :: C⟩) h
  ·intro j h;refine zU rfl (zL 1 R3 R6 (TO.callIn rfl rfl rfl rfl rfl rfl (orcN rfl) (TF.enter (fn := Go.Proofs.Tryz.f54) rfl rfl rfl rfl rfl (zU rfl (zQ 1 [_] R7 (fun b1_2=>zA R4 (zN (zU rfl (zV R3 (Val.makeFunc rfl rfl) (zA R4 (zN (zR ?_))))))))))));refine ⟨rfl, _, rfl, ?_⟩;refine zN (zB (T.nilown (u := encI.u) (T.nilown (u := encI.u) (T.nilown (u := encI.u) (T.nilown (u := encI.u) (T.nilown (u := encI.u) ?_))))));obtain ⟨hkR1, h⟩ := chk_some h
   show T _ _ _ _ _ _;apply T.rangeP (r := j) (W := AV × AV × AV × AV × AV) (w0 := (nilS, nilS, nilS, nilS, nilS)) ArgT (fun (j : (List Int) × Bool × (List Int) × (List Int) × (List Int) × (List Int) × Bool × Int × Int) (w : AV × AV × AV × AV × AV) => [ownL j.2.1 w.1 encI j.1, ownL true w.2.1 encI j.2.2.1, ownL true w.2.2.1 encI j.2.2.2.1, ownL true w.2.2.2.1 encI j.2.2.2.2.1, ownL true w.2.2.2.2 encI j.2.2.2.2.2.1, .row b7 1 [bv j.2.2.2.2.2.2.1], .row b2 7 [w.1, w.2.1, iv (j.2.2.2.2.2.2.2.1), w.2.2.1, w.2.2.2.1, w.2.2.2.2, iv (j.2.2.2.2.2.2.2.2)]]) (.row b1_2 1 [.ptr w12 0 5] :: .row b4 1 [.ptr w12 0 5] :: .row w12 5 [iv (y12_2), v_c_Book_Gatherings, v_c_Items, y12_3.v, w12_2] :: ownL true w12_2 encI y12_4 :: .row b1 3 [iv (c_Book_Signed), v_c_Book_Gatherings, v_c_Items] :: C) h
   ·rfl
   ·rfl
   ·rfl
   ·exact (pk [0,0,0,0,0,1,4] rfl)
   ·exact tr_yields (List.mem_of_getElem? (i := 0) rfl) (List.mem_of_getElem? (i := 2) rfl) (Rdl.mono h_c_Items M5) hkR1
   ·rintro l1 d ⟨best_Leaves, z, best_Lost, best_Strange, best_Twice, best_Moved, first, best_Pieces, best_All⟩ ⟨v28, v23, v19, v16, v14⟩ t vs G F1 ans hmem harg hD hG h;unfold P_c_Faults_L1 at h;dsimp only at h;obtain ⟨v_t, rfl, rfl⟩ := harg
    have h_t : Rdl F1 encI v_t t := .inr ⟨false, hG _ (by simp)⟩
    have hCF : ∀ x ∈ C, x ∈ F1 := fun x hx => hD x (memS M4 x hx)
    replace h_c_Book_Gatherings := Rdl.mono h_c_Book_Gatherings hCF;replace h_c_Items := Rdl.mono h_c_Items hCF
    have hu1_t10 : Rdl F1 encI w12_2 y12_4 := .inr ⟨true, (hD _ (List.mem_of_getElem? (i := 3) rfl))⟩
    have hu1_t9 : Thing.row w12 5 [iv (y12_2), v_c_Book_Gatherings, v_c_Items, y12_3.v, w12_2] ∈ F1 := (hD _ (List.mem_of_getElem? (i := 2) rfl))
    have hu1_t1 : Thing.row b1 3 [iv (c_Book_Signed), v_c_Book_Gatherings, v_c_Items] ∈ F1 := (hD _ (List.mem_of_getElem? (i := 4) rfl))
    have hu1_t13 : Thing.row b1_2 1 [.ptr w12 0 5] ∈ F1 := (hD _ (List.mem_of_getElem? (i := 0) rfl))
    have hu1_t11 : Thing.row b4 1 [.ptr w12 0 5] ∈ F1 := (hD _ (List.mem_of_getElem? (i := 1) rfl));refine ⟨_, rfl, fun LR1 LB1 hLB1 => ?_⟩;refine T.things (hs' := LR1 :: ownL z v28 encI best_Leaves :: ownL true v23 encI best_Lost :: ownL true v19 encI best_Strange :: ownL true v16 encI best_Twice :: ownL true v14 encI best_Moved :: .row b7 1 [bv first] :: .row b2 7 [v28, v23, iv (best_Pieces), v19, v16, v14, iv (best_All)] :: F1) rfl (zT rfl (zA R4 (zN ?_)));refine ⟨rfl, 0, rfl, ?_⟩;refine T.things (hs' := LB1 :: ownL z v28 encI best_Leaves :: ownL true v23 encI best_Lost :: ownL true v19 encI best_Strange :: ownL true v16 encI best_Twice :: ownL true v14 encI best_Moved :: .row b7 1 [bv first] :: .row b2 7 [v28, v23, iv (best_Pieces), v19, v16, v14, iv (best_All)] :: F1) rfl (zB (zU rfl (zV R3 (Val.load_rowM hu1_t11 M8 ⟨_, rfl, rfl⟩ rfl rfl rfl) (zM R4 ?_))));obtain ⟨⟨y26, y26_2, y26_3, y26_4, y26_5, y26_6, y26_7⟩, hr26, h⟩ := andx_some h;dsimp only at h;refine TO.callT (first := []) (cap := []) (vs := [.ptr w12 0 5, v_t]) rfl rfl rfl rfl rfl rfl (orcN rfl) (tf_c_faults aD (Rdl.mono h_c_Book_Gatherings M8) (Rdl.mono h_c_Items M8) (Rdl.mono (Rdl.gs (C := F1) y12_3) M8) (Rdl.mono hu1_t10 M8) (M8 _ hu1_t9) (Rdl.mono h_t M8) hr26) ?_;rintro ⟨w26, w26_2, w26_3, w26_4, w26_5⟩;refine zG (_::_::_::_::_::_::_::_::_::_::_::_::_::F1) rfl (zJ 7 [_,_,_,_,_,_,_] R7 (fun b9=>TO.fact (own_cellS (p := 1) rfl) (fun hot44=>TO.fact (own_cellS (p := 2) rfl) (fun hot45=>TO.fact (own_cellS (p := 3) rfl) (fun hot46=>TO.fact (own_cellS (p := 4) rfl) (fun hot47=>TO.fact (own_cellS (p := 5) rfl) (fun hot48=>TO.eff0 rfl rfl (Eff.store_row (p := 0) (cv := [_, _, _, _, _, _, _]) (cells' := [_, _, _, _, _, _, _]) rfl rfl rfl rfl rfl rfl rfl rfl (by first | rfl | (simp [GS.one, hot44.2, hot45.2, hot46.2, hot47.2, hot48.2]; done) | (simp [GS.one, hot44.2, hot45.2, hot46.2, hot47.2, hot48.2]; (repeat' apply And.intro) <;> rfl)) (by decide) rfl) ?_)))))));rintro _ rfl;refine zG (_::_::_::_::_::_::_::_::_::_::_::_::_::_::F1) rfl (zN ?_)
    show T _ _ _ _ _ _;apply T.join (r := ans) (W := Unit) (fun j w => ⟨[], [(2, .ptr b2 0 7), (7, .ptr b7 0 1), (8, v_t), (9, .ptr b9 0 7)], .row b9 7 [w26, w26_2, iv (y26_3), w26_3, w26_4, w26_5, iv (y26_7)] :: ownL true w26 encI y26 :: ownL true w26_2 encI y26_2 :: ownL true w26_3 encI y26_4 :: ownL true w26_4 encI y26_5 :: ownL true w26_5 encI y26_6 :: LB1 :: ownL z v28 encI best_Leaves :: ownL true v23 encI best_Lost :: ownL true v19 encI best_Strange :: ownL true v16 encI best_Twice :: ownL true v14 encI best_Moved :: .row b7 1 [bv j] :: .row b2 7 [v28, v23, iv (best_Pieces), v19, v16, v14, iv (best_All)] :: F1⟩) h
    ·intro j h
     show T _ _ _ _ _ _;apply T.joinA (r := j) (W := Unit) (fun j w => ⟨[], [(2, .ptr b2 0 7), (7, .ptr b7 0 1), (8, v_t), (9, .ptr b9 0 7), (35, bv j.1)], .row b9 7 [w26, w26_2, iv (y26_3), w26_3, w26_4, w26_5, iv (y26_7)] :: ownL true w26 encI y26 :: ownL true w26_2 encI y26_2 :: ownL true w26_3 encI y26_4 :: ownL true w26_4 encI y26_5 :: ownL true w26_5 encI y26_6 :: LB1 :: ownL z v28 encI best_Leaves :: ownL true v23 encI best_Lost :: ownL true v19 encI best_Strange :: ownL true v16 encI best_Twice :: ownL true v14 encI best_Moved :: .row b7 1 [bv j.2] :: .row b2 7 [v28, v23, iv (best_Pieces), v19, v16, v14, iv (best_All)] :: F1⟩) h
     ·intro j h;refine zT rfl (zL 12 R3 R6 (zV R3 (Val.not rfl) (zM R4 ?_)));obtain ⟨rfl, h⟩ | ⟨rfl, h⟩ := zZ h
      ·refine zO R3 (zO R3 (zO R3 (zO R3 (zO R3 (zP R6 (zN ?_))))));cases h;exact ⟨rfl, (), (sb .refl)⟩
      refine zF 6 R6 (zL 0 R3 R6 (zF 6 R6 (zL 13 R3 R6 ?_)));obtain ⟨c34, hc34⟩ := zY (y26_7 ≥ best_All);refine zV R3 (Val.geq hc34 rfl rfl) (zP R6 (zN ?_));subst hc34;cases h;exact ⟨rfl, (), (sb .refl)⟩
     ·rintro ⟨x35, first_2⟩ _ h;dsimp only at h;dsimp only;obtain ⟨rfl, h⟩ | ⟨rfl, h⟩ := zZ h
      ·refine zC rfl (zE ?_);cases h;exact ⟨ex_ne, ⟨rfl, (v28, v23, v19, v16, v14), (pk [6,6,6,6,6,6,6,6,98,98,98,98,98,98] rfl)⟩⟩
      refine zD rfl (zK ?_);cases h;exact ⟨rfl, (), (sb .refl)⟩
    ·rintro first_2 _ h;refine zU rfl (zV R3 (vW 0 [_,_,_,_,_,_,_] R5 R4) (TO.fact (own_cellS (p := 1) rfl) (fun hot44=>TO.fact (own_cellS (p := 2) rfl) (fun hot45=>TO.fact (own_cellS (p := 3) rfl) (fun hot46=>TO.fact (own_cellS (p := 4) rfl) (fun hot47=>TO.fact (own_cellS (p := 5) rfl) (fun hot48=>TO.eff0 rfl rfl (Eff.store_row (p := 13) (cv := [_, _, _, _, _, _, _]) (cells' := [_, _, _, _, _, _, _]) rfl rfl rfl rfl rfl rfl rfl rfl (by first | rfl | (simp [GS.one, hot44.2, hot45.2, hot46.2, hot47.2, hot48.2]; done) | (simp [GS.one, hot44.2, hot45.2, hot46.2, hot47.2, hot48.2]; (repeat' apply And.intro) <;> rfl)) (by decide) rfl) ?_)))))));rintro _ rfl;refine zG (_::_::_::_::_::_::_::_::_::_::_::_::_::_::F1) rfl (TO.eff0 rfl rfl (Eff.store_row (p := 12) (cv := [_]) (cells' := [_]) rfl rfl rfl rfl rfl rfl rfl rfl aG (by decide) rfl) ?_);rintro _ rfl;refine zG (_::_::_::_::_::_::_::_::_::_::_::_::_::_::F1) rfl (zN (zU rfl (zM R4 (zV R3 (Val.len_l h_t (memS (memS (memS (memS (memS (memS M8)))))) rfl rfl) ?_))));obtain ⟨hk39, h⟩ := chk_some h;refine TO.makeE (en := encI) (0) (b := 8) rfl rfl rfl ⟨rfl, rfl⟩ rfl rfl rfl rfl rfl hk39 (by decide) (fun v39=>zF 0 R6 (TO.fact (own_cellS (p := 0) rfl) (fun hot50=>TO.eff0 rfl rfl (Eff.store_row (p := 14) (cv := [_]) (cells' := [_, _, _, _, _, _, _]) rfl rfl rfl rfl rfl hot50.1 rfl rfl (by first | rfl | (simp [GS.one, hot50.2]; done)) (by decide) rfl) ?_)));rintro _ rfl;refine zG (_::_::_::_::_::_::_::_::_::_::_::_::_::_::_::F1) rfl (zN (zT rfl (zF 0 R6 (zL 14 R3 R6 (zM R4 ?_)))));obtain ⟨hkcp, h⟩ := chk_some h;refine TO.eff rfl rfl rfl (Eff.copy_l (en := encI) (l := _) (p := 0) ⟨rfl, rfl⟩ (by decide) rfl rfl h_t (memS (memS (memS (memS (memS (memS (memS M8))))))) rfl rfl (flat_ones _) hkcp) ?_;rintro _ _ ⟨rfl, rfl⟩;refine zG (_::_::_::_::_::_::_::_::_::_::_::_::_::_::_::F1) rfl (zN ?_);cases h;exact ⟨rfl, (v39, w26_2, w26_3, w26_4, w26_5), (pk [7,0,2,2,2,2,7,7,98,98,98,98,98,98,98] rfl)⟩
   ·rintro d ⟨best_Leaves, z, best_Lost, best_Strange, best_Twice, best_Moved, first, best_Pieces, best_All⟩ ⟨v28, v23, v19, v16, v14⟩ h;dsimp only at h;cases h;exact ⟨rfl, (d, v28, v23, v19, v16, v14), (sb (pk [0,0,0,0,0,0,0,0,1,1,1,1,98] rfl))⟩
  ·rintro ⟨best_Leaves, z, best_Lost, best_Strange, best_Twice, best_Moved, first, best_Pieces, best_All⟩ ⟨iddfr1, v28, v23, v19, v16, v14⟩ h;dsimp only at h;dsimp only;refine zU rfl (zV R3 (vW 7 [_,_,_,_,_,_,_] R5 R4) (TO.fact (own_cellS (p := 1) rfl) (fun hot28=>TO.fact (own_cellS (p := 2) rfl) (fun hot23=>TO.fact (own_cellS (p := 3) rfl) (fun hot19=>TO.fact (own_cellS (p := 4) rfl) (fun hot16=>TO.fact (own_cellS (p := 5) rfl) (fun hot14=>TO.eff0 rfl rfl (Eff.store_row (p := 7) (cv := [_, _, _, _, _, _, _]) (cells' := [_, _, _, _, _, _, _]) rfl rfl rfl rfl rfl rfl rfl rfl (by first | rfl | (simp [GS.one, hot28.2, hot23.2, hot19.2, hot16.2, hot14.2]; done) | (simp [GS.one, hot28.2, hot23.2, hot19.2, hot16.2, hot14.2]; (repeat' apply And.intro) <;> rfl)) (by decide) rfl) ?_)))))));rintro _ rfl;refine zG (_::_::_::_::_::_::_::_::_::_::_::_::C) rfl (zA R4 (zN (zR ?_)));cases h;exact ⟨rfl, _, ⟨0, rfl, rfl⟩, [_, _], ⟨⟨_, rfl, LoadR.rows (p := 6) (c := [_, _, _, _, _, _, _]) rfl ⟨⟨_, rfl, rfl⟩, rfl, by decide⟩ rfl rfl rfl⟩, ⟨rfl, trivial⟩⟩, ⟨(v28, v23, v19, v16, v14), rfl, (pk [0,0,0,0,0,98,98,98,98,98,98] rfl)⟩⟩
theorem w_c_Faults (c_Book_Signed : Int) (c_Book_Gatherings : GS encG) (c_Items : GS encIt) (r : (List Int) × Bool × (List Int) × Bool × Int × (List Int) × Bool × (List Int) × Bool × (List Int) × Bool × Int × Int) (h : P_c_Faults c_Book_Signed c_Book_Gatherings.l c_Items.l = some r) : Comes (EL 5) 23 [.agg [iv (c_Book_Signed), c_Book_Gatherings.v, c_Items.v]] (.tuple [.agg [(GSo r.2.1 encI r.1).v, (GSo r.2.2.2.1 encI r.2.2.1).v, iv r.2.2.2.2.1, (GSo r.2.2.2.2.2.2.1 encI r.2.2.2.2.2.1).v, (GSo r.2.2.2.2.2.2.2.2.1 encI r.2.2.2.2.2.2.2.1).v, (GSo r.2.2.2.2.2.2.2.2.2.2.1 encI r.2.2.2.2.2.2.2.2.2.1).v, iv r.2.2.2.2.2.2.2.2.2.2.2.1], iv r.2.2.2.2.2.2.2.2.2.2.2.2]) :=
 TF.run (tf_c_Faults (Nat.le_refl _) (RdT.gs c_Book_Gatherings) (RdT.gs c_Items) h) fun w => (.tuple (.cons (.agg (.cons (.ownL (en := encI) (p := 0) rfl (.lits encI_lits)) (.cons (.ownL (en := encI) (p := 1) rfl (.lits encI_lits)) (.cons .lit (.cons (.ownL (en := encI) (p := 2) rfl (.lits encI_lits)) (.cons (.ownL (en := encI) (p := 3) rfl (.lits encI_lits)) (.cons (.ownL (en := encI) (p := 4) rfl (.lits encI_lits)) (.cons .lit .nil)))))))) (.cons .lit .nil)))
set_option maxRecDepth 10000 in
theorem tf_c_Range {k : Nat} (hk : 5 ≤ k) {C : List Thing} {c_Book_Signed : Int} {v_c_Book_Gatherings : AV} {c_Book_Gatherings : List Gat} {v_c_Items : AV} {c_Items : List Item} (ht_c_Book_Gatherings : RdT encG v_c_Book_Gatherings c_Book_Gatherings) (ht_c_Items : RdT encIt v_c_Items c_Items) {r : Int × Int × Int} (h : P_c_Range c_Book_Signed c_Book_Gatherings c_Items = some r) :
  TF (EL k) 16 [.agg [iv (c_Book_Signed), v_c_Book_Gatherings, v_c_Items]] C (RepF (fun (w : Unit) => .tuple [.agg [iv r.1, iv r.2.1], iv r.2.2]) (fun (w : Unit) => C)) := by
 unfold P_c_Range at h
 have h_c_Book_Gatherings : Rdl C encG v_c_Book_Gatherings c_Book_Gatherings := RdT.rdl ht_c_Book_Gatherings
 have h_c_Items : Rdl C encIt v_c_Items c_Items := RdT.rdl ht_c_Items;refine TF.enterG (fn := Go.Proofs.Tryz.f16) rfl rfl rfl rfl rfl (zU rfl (zQ 3 [_,_,_] R7 (fun b1=>zJ 2 [_,_] R7 (fun b2=>zA R4 (zN (zU rfl (zV R3 (vW 1 [_,_,_] R5 R4) ?_)))))));obtain ⟨y10, hr10, h⟩ := andx_some h;cases y10 with
 | inl y10 =>
  obtain ⟨y10_2, y10_3, y10_4⟩ := y10;dsimp only at h;obtain ⟨hkn10, h⟩ := chk_some h;refine TO.callT (first := []) (cap := []) (vs := [.agg [iv (c_Book_Signed), v_c_Book_Gatherings, v_c_Items]]) rfl rfl rfl rfl rfl rfl (orcN rfl) (tf_c_open aD (Rdl.mono h_c_Book_Gatherings M2) (Rdl.mono h_c_Items M2) hr10) ?_;rintro _;refine zG (_::_::C) rfl (zM R4 (zX R5 (zX R5 (zX R5 (zX R5 (zA R4 (zA R4 (zA R4 (zA R4 (zN (zS (zU rfl (zM R4 ?_)))))))))))));obtain ⟨c16, hc16⟩ := zY (¬ y10_4 = 0);refine zV R3 (Val.neq hc16 rfl rfl) (zN ?_);obtain rfl : c16 = true := hc16.trans (decide_eq_true hkn10);refine zC rfl (zU rfl (zV R3 (Val.buildC (cs := [_, _]) (vs := []) (ws := []) rfl rfl CellsL.nil rfl) (zM R4 (TO.eff0 rfl rfl (Eff.store_row (p := 0) (cv := [_, _]) (cells' := [_, _]) rfl rfl rfl rfl rfl rfl rfl rfl aG (by decide) rfl) ?_))));rintro _ rfl;refine zG (_::_::C) rfl (zA R4 (zN (zR ?_)));cases h;exact ⟨rfl, _, rfl, [_, _], ⟨⟨_, rfl, LoadR.rows (p := 0) (c := [_, _]) rfl ⟨⟨_, rfl, rfl⟩, rfl, by decide⟩ rfl rfl rfl⟩, ⟨rfl, trivial⟩⟩, ⟨(), rfl, (pk [98,98] rfl)⟩⟩
 | inr y10 =>
  obtain ⟨y10_2, y10_3, y10_4, y10_5, y10_6, y10_7⟩ := y10;dsimp only at h;obtain ⟨hkn10, h⟩ := chk_some h;refine TO.callT (first := []) (cap := []) (vs := [.agg [iv (c_Book_Signed), v_c_Book_Gatherings, v_c_Items]]) rfl rfl rfl rfl rfl rfl (orcN rfl) (tf_c_open aD (Rdl.mono h_c_Book_Gatherings M2) (Rdl.mono h_c_Items M2) hr10) ?_;rintro ⟨w10, w10_2⟩;refine zG (_::_::_::_::C) rfl (zM R4 (zX R5 (zX R5 (zX R5 (zX R5 (zA R4 (zA R4 (zA R4 (zA R4 (zN (zS (zU rfl (zM R4 ?_)))))))))))));obtain ⟨c16, hc16⟩ := zY (¬ y10_7 = 0);refine zV R3 (Val.neq hc16 rfl rfl) (zN ?_);obtain rfl : c16 = false := hc16.trans (decide_eq_false (fun x => x hkn10));refine zD rfl (zK (zU rfl (zM R4 ?_)));obtain ⟨⟨y20, y20_2⟩, hr20, h⟩ := andx_some h;dsimp only at h;refine TO.callT (first := []) (cap := []) (vs := [.ptr w10 0 5]) rfl rfl rfl rfl rfl rfl (orcN rfl) (tf_c_wide aD (Rdl.mono h_c_Book_Gatherings M4) (Rdl.mono h_c_Items M4) (Rdl.mono (Rdl.gs (C := C) y10_3) M4) (Rdl.mono (Rdl.own (C := .row w10 5 [iv (y10_2), v_c_Book_Gatherings, v_c_Items, y10_3.v, w10_2] :: ownL true w10_2 encI y10_4 :: .row b2 2 [iv (0), iv (0)] :: .row b1 3 [iv (c_Book_Signed), v_c_Book_Gatherings, v_c_Items] :: C) (p := 1) rfl) mem0) (List.mem_of_getElem? (i := 0) rfl) hr20) ?_;rintro _;refine zG (_::_::_::_::C) rfl (TO.eff0 rfl rfl (Eff.store_row (p := 2) (cv := [_, _]) (cells' := [_, _]) rfl rfl rfl rfl rfl rfl rfl rfl aG (by decide) rfl) ?_);rintro _ rfl;refine zG (_::_::_::_::C) rfl (zA R4 (zN (zR ?_)));cases h;exact ⟨rfl, _, rfl, [_, _], ⟨⟨_, rfl, LoadR.rows (p := 2) (c := [_, _]) rfl ⟨⟨_, rfl, rfl⟩, rfl, by decide⟩ rfl rfl rfl⟩, ⟨rfl, trivial⟩⟩, ⟨(), rfl, (pk [98,98,98,98] rfl)⟩⟩
theorem w_c_Range (c_Book_Signed : Int) (c_Book_Gatherings : GS encG) (c_Items : GS encIt) (r : Int × Int × Int) (h : P_c_Range c_Book_Signed c_Book_Gatherings.l c_Items.l = some r) : Comes (EL 5) 16 [.agg [iv (c_Book_Signed), c_Book_Gatherings.v, c_Items.v]] (.tuple [.agg [iv r.1, iv r.2.1], iv r.2.2]) :=
 TF.run (tf_c_Range (Nat.le_refl _) (RdT.gs c_Book_Gatherings) (RdT.gs c_Items) h) fun w => (.tuple (.cons (.agg (.cons .lit (.cons .lit .nil))) (.cons .lit .nil)))
end Go.Am.YthckcbfijdambaaGreat
end
section
namespace Go.Am
set_option linter.unusedVariables false
end Go.Am
end
section
namespace Go.Am.YthckcbfijdambaaGreat
open Go.Am Go.RowKit
set_option linter.unusedVariables false
set_option linter.unusedSimpArgs false
end Go.Am.YthckcbfijdambaaGreat
end
section
namespace Go.Am
set_option linter.unusedVariables false
noncomputable def P_r4_Check_L1 (c_Items : List Item) (all33 : List Leaf) : Int → Option (Stp Int (Ex Unit (Int × Int × Int))) := fun i =>
  if i < (c_Items.length : Int) then
    el c_Items i fun a49 =>
    andx (P_r4_item a49.could.l (all33.length : Int)) fun y52 =>
      if ¬ y52 = 0 then
        some (Stp.dn (Ex.rt (2, i, y52)))
      else
        chk (I64 (i + 1)) (
          some (Stp.ag (i + 1)))
  else
    some (Stp.dn (Ex.nx ()))
noncomputable def P_r4_Check_L2 (c_Items : List Item) : (Int × Int) → Option (Stp (Int × Int) (Ex Unit (Int × Int × Int))) := fun (doubts, i) =>
  if i < (c_Items.length : Int) then
    seqx (
      andx (
        el c_Items i fun a67 =>
        if (a67.could.l.length : Int) > 1 then
          chk (I64 (doubts + 1)) (
            some (doubts + 1))
        else
          some doubts) fun doubts_2 =>
        if doubts_2 > 3 then
          some (Ex.rt (Stp.dn (Ex.rt (3, i, 3))))
        else
          some (Ex.nx doubts_2)) fun doubts_2 =>
      chk (I64 (i + 1)) (
        some (Stp.ag (doubts_2, (i + 1))))
  else
    some (Stp.dn (Ex.nx ()))
noncomputable def P_r4_Check (c_Book_Signed : Int) (c_Book_Gatherings : List Gat) (c_Items : List Item) : Option (Int × Int × Int) :=
  andx (P_r1_Check c_Book_Signed c_Book_Gatherings) fun (part15, at_15, e15) =>
    andx (
      andx (
        if e15 = 0 then
          andx (P_r1_All c_Book_Signed c_Book_Gatherings) fun all24 =>
            some (decide ((all24.length : Int) > 120))
        else
          some false) fun x27 =>
        if x27 = true then
          some 3
        else
          some e15) fun e =>
      if ¬ e = 0 then
        some (1, 0, e)
      else
        andx (P_r1_All c_Book_Signed c_Book_Gatherings) fun all33 =>
          if (c_Items.length : Int) > 120 then
            some (2, 0, 3)
          else
            seqx (
              iter (P_r4_Check_L1 c_Items all33) 0) fun _ =>
              seqx (
                iter (P_r4_Check_L2 c_Items) (0, 0)) fun _ =>
                some (0, 0, 0)
noncomputable def P_r4_All_L3 (l9 : List (List Int)) (k_ : Int) : (Int × (List (List Int))) → Option (Stp (Int × (List (List Int))) (List (List Int))) := fun (n, next_2) =>
  if n < ([(-1)].length : Int) then
    el l9 k_ fun a43 =>
    el [(-1)] n fun a48 =>
    chk (([] : List Int).length + a43.length < 1000000000) (
      chk ((([] : List Int) ++ a43).length + [a48].length < 1000000000) (
        chk (next_2.length + [(([] : List Int) ++ a43) ++ [a48]].length < 1000000000) (
          chk (I64 (n + 1)) (
            some (Stp.ag ((n + 1), next_2 ++ [(([] : List Int) ++ a43) ++ [a48]]))))))
  else
    some (Stp.dn next_2)
noncomputable def P_r4_All_L2 (l9 : List (List Int)) : (Int × (List (List Int))) → Option (Stp (Int × (List (List Int))) (List (List Int))) := fun (k_, next) =>
  if k_ < (l9.length : Int) then
    andx (
      iter (P_r4_All_L3 l9 k_) (0, next)) fun next_2 =>
      chk (I64 (k_ + 1)) (
        some (Stp.ag ((k_ + 1), next_2)))
  else
    some (Stp.dn next)
noncomputable def P_r4_All_L5 (l9 : List (List Int)) (a20 : Item) (k_ : Int) : (Int × (List (List Int))) → Option (Stp (Int × (List (List Int))) (List (List Int))) := fun (n, next_2) =>
  if n < (a20.could.l.length : Int) then
    el l9 k_ fun a43 =>
    el a20.could.l n fun a48 =>
    chk (([] : List Int).length + a43.length < 1000000000) (
      chk ((([] : List Int) ++ a43).length + [a48].length < 1000000000) (
        chk (next_2.length + [(([] : List Int) ++ a43) ++ [a48]].length < 1000000000) (
          chk (I64 (n + 1)) (
            some (Stp.ag ((n + 1), next_2 ++ [(([] : List Int) ++ a43) ++ [a48]]))))))
  else
    some (Stp.dn next_2)
noncomputable def P_r4_All_L4 (l9 : List (List Int)) (a20 : Item) : (Int × (List (List Int))) → Option (Stp (Int × (List (List Int))) (List (List Int))) := fun (k_, next) =>
  if k_ < (l9.length : Int) then
    andx (
      iter (P_r4_All_L5 l9 a20 k_) (0, next)) fun next_2 =>
      chk (I64 (k_ + 1)) (
        some (Stp.ag ((k_ + 1), next_2)))
  else
    some (Stp.dn next)
noncomputable def P_r4_All_L1 (c_Items : List Item) : (Int × (List (List Int)) × Bool) → Option (Stp (Int × (List (List Int)) × Bool) ((List (List Int)) × Bool)) := fun (i, l9, z) =>
  if i < (c_Items.length : Int) then
    andx (
      el c_Items i fun a20 =>
      if (a20.could.l.length : Int) = 0 then
        andx (
          iter (P_r4_All_L2 l9) (0, ([] : List (List Int)))) fun next =>
          some next
      else
        andx (
          iter (P_r4_All_L4 l9 a20) (0, ([] : List (List Int)))) fun next =>
          some next) fun next =>
      chk (I64 (i + 1)) (
        some (Stp.ag ((i + 1), next, true)))
  else
    some (Stp.dn (l9, z))
noncomputable def P_r4_All (c_Book_Signed : Int) (c_Book_Gatherings : List Gat) (c_Items : List Item) : Option ((List (List Int)) × Bool) :=
  andx (
    iter (P_r4_All_L1 c_Items) (0, [([] : List Int)], false)) fun (l9, z) =>
    some (l9, z)
end Go.Am
end
section
namespace Go.Am.YthckcbfijdambaaGreat
open Go.Am Go.RowKit
set_option linter.unusedVariables false
set_option linter.unusedSimpArgs false
set_option maxRecDepth 10000 in
theorem tf_r4_Check {k : Nat} (hk : 4 ≤ k) {C : List Thing} {c_Book_Signed : Int} {v_c_Book_Gatherings : AV} {c_Book_Gatherings : List Gat} {v_c_Items : AV} {c_Items : List Item} (ht_c_Book_Gatherings : RdT encG v_c_Book_Gatherings c_Book_Gatherings) (ht_c_Items : RdT encIt v_c_Items c_Items) {r : Int × Int × Int} (h : P_r4_Check c_Book_Signed c_Book_Gatherings c_Items = some r) :
  TF (EL k) 29 [.agg [iv (c_Book_Signed), v_c_Book_Gatherings, v_c_Items]] C (RepF (fun (w : Unit) => .tuple [iv r.1, iv r.2.1, iv r.2.2]) (fun (w : Unit) => C)) := by
 unfold P_r4_Check at h
 have h_c_Book_Gatherings : Rdl C encG v_c_Book_Gatherings c_Book_Gatherings := RdT.rdl ht_c_Book_Gatherings
 have h_c_Items : Rdl C encIt v_c_Items c_Items := RdT.rdl ht_c_Items;refine TF.enter (fn := Go.Proofs.Tryz.f29) rfl rfl rfl rfl rfl (zU rfl (zQ 3 [_,_,_] R7 (fun b1=>zA R4 (zA R4 (zA R4 (zN (zU rfl (zF 0 R6 (zV R3 (vW 0 [_,_] R5 R4) ?_)))))))));obtain ⟨⟨part15, at_15, e15⟩, hr15, h⟩ := andx_some h;dsimp only at h;obtain ⟨g, hgg, hrg⟩ := Rdl.reif (hs := .row b1 3 [iv (c_Book_Signed), v_c_Book_Gatherings, v_c_Items] :: C) h_c_Book_Gatherings M1 (ReifL.flat encG_tr);refine TO.call rfl rfl rfl rfl rfl (orcL rfl aD) (.cons (.agg (.cons .lit (.cons (hrg _) .nil))) .nil) (sem_of (w_r1_Check c_Book_Signed g _ (by try rw [hgg]; exact hr15))) (zM R4 (zX R5 (zX R5 (zX R5 (zA R4 (zA R4 (zA R4 (zN ?_))))))))
 show T _ _ _ _ _ _;apply T.joinA (r := r) (W := Unit) (fun j w => ⟨[], [(1, .ptr b1 0 3), (7, iv (j))], .row b1 3 [iv (c_Book_Signed), v_c_Book_Gatherings, v_c_Items] :: C⟩) h
 ·intro j h
  show T _ _ _ _ _ _;apply T.joinA (r := j) (W := Unit) (fun j w => ⟨[], [(1, .ptr b1 0 3), (7, iv (e15)), (27, bv j)], .row b1 3 [iv (c_Book_Signed), v_c_Book_Gatherings, v_c_Items] :: C⟩) h
  ·intro j h;refine zT rfl (zM R4 ?_);obtain ⟨c20, hc20⟩ := zY (e15 = 0);refine zV R3 (Val.eql hc20 rfl rfl) (zM R4 ?_);obtain ⟨rfl, hc20, h⟩ | ⟨rfl, hc20, h⟩ := zI hc20 h
   ·refine zF 0 R6 (zV R3 (vW 0 [_,_] R5 R4) ?_);obtain ⟨all24, hr24, h⟩ := andx_some h;obtain ⟨g_2, hgg_2, hrg_2⟩ := Rdl.reif (hs := .row b1 3 [iv (c_Book_Signed), v_c_Book_Gatherings, v_c_Items] :: C) h_c_Book_Gatherings M1 (ReifL.flat encG_tr);refine TO.call rfl rfl rfl rfl rfl (orcL rfl aD) (.cons (.agg (.cons .lit (.cons (hrg_2 _) .nil))) .nil) (sem_of (w_r1_All c_Book_Signed g_2 _ (by try rw [hgg_2]; exact hr24))) (zV R3 (Val.len_gs rfl rfl) ?_);obtain ⟨c26, hc26⟩ := zY ((all24.length : Int) > 120);refine zV R3 (Val.gtr hc26 rfl rfl) (zP R6 (zN ?_));subst hc26;cases h;exact ⟨rfl, (), (sb .refl)⟩
   refine zO R3 (zO R3 (zO R3 (zO R3 (zO R3 (zP R6 (zN ?_))))));cases h;exact ⟨rfl, (), (sb .refl)⟩
  ·rintro x27 _ h;obtain ⟨rfl, h⟩ | ⟨rfl, h⟩ := zZ h
   ·refine zC rfl (zT rfl (zA R4 (zN ?_)));cases h;exact ⟨rfl, (), (sb .refl)⟩
   refine zD rfl (zK ?_);cases h;exact ⟨rfl, (), (sb .refl)⟩
 ·rintro e _ h;refine zS (zU rfl (zM R4 ?_));obtain ⟨c29, hc29⟩ := zY (¬ e = 0);refine zV R3 (Val.neq hc29 rfl rfl) (zN ?_);obtain ⟨rfl, hc29, h⟩ | ⟨rfl, hc29, h⟩ := zI hc29 h
  ·refine zC rfl (zU rfl (zM R4 (zA R4 (zA R4 (zA R4 (zN (zR ?_)))))));cases h;exact ⟨rfl, _, rfl, ⟨(), rfl, (pk [98] rfl)⟩⟩
  refine zD rfl (zK (zU rfl (zF 0 R6 (zV R3 (vW 0 [_,_] R5 R4) ?_))));obtain ⟨all33, hr33, h⟩ := andx_some h;obtain ⟨g_2, hgg_2, hrg_2⟩ := Rdl.reif (hs := .row b1 3 [iv (c_Book_Signed), v_c_Book_Gatherings, v_c_Items] :: C) h_c_Book_Gatherings M1 (ReifL.flat encG_tr);refine TO.call rfl rfl rfl rfl rfl (orcL rfl aD) (.cons (.agg (.cons .lit (.cons (hrg_2 _) .nil))) .nil) (sem_of (w_r1_All c_Book_Signed g_2 _ (by try rw [hgg_2]; exact hr33))) (zV R3 (Val.len_gs rfl rfl) (zA R4 (zN (zS (zU rfl (zF 2 R6 (zL 0 R3 R6 (zV R3 (Val.len_l h_c_Items M1 rfl rfl) ?_))))))));obtain ⟨c38, hc38⟩ := zY ((c_Items.length : Int) > 120);refine zV R3 (Val.gtr hc38 rfl rfl) (zN ?_);obtain ⟨rfl, hc38, h⟩ | ⟨rfl, hc38, h⟩ := zI hc38 h
  ·refine zC rfl (zU rfl (zA R4 (zA R4 (zA R4 (zN (zR ?_))))));cases h;exact ⟨rfl, _, rfl, ⟨(), rfl, (pk [98] rfl)⟩⟩
  refine zD rfl (zK ?_)
  show T _ _ _ _ _ _;apply T.join (r := r) (W := Unit) (fun j w => ⟨[], [(1, .ptr b1 0 3)], .row b1 3 [iv (c_Book_Signed), v_c_Book_Gatherings, v_c_Items] :: C⟩) h
  ·intro j h;refine zU rfl (zA R4 (zN (zB ?_)))
   show T _ _ _ _ _ _;apply T.iter (r := j) (W := Unit) (fun j w => ⟨[], [(1, .ptr b1 0 3), (8, iv ((all33.length : Int))), (9, iv (j))], .row b1 3 [iv (c_Book_Signed), v_c_Book_Gatherings, v_c_Items] :: C⟩) (w0 := ()) h
   ·exact (sb .refl)
   rintro i _ a h;unfold P_r4_Check_L1 at h;refine zS (zU rfl (zM R4 (zF 2 R6 (zL 0 R3 R6 (zV R3 (Val.len_l h_c_Items M1 rfl rfl) ?_)))));obtain ⟨c43, hc43⟩ := zY (i < (c_Items.length : Int));refine zV R3 (Val.lss hc43 rfl rfl) (zN ?_);obtain ⟨rfl, hc43, h⟩ | ⟨rfl, hc43, h⟩ := zI hc43 h
   ·refine zC rfl (zK (zS (zB (zU rfl (zF 2 R6 (zL 0 R3 R6 (zM R4 ?_)))))));obtain ⟨a49, hia49, ea49, h⟩ := el_some h;refine TO.fact (rdl_at h_c_Items M1 hia49 ea49) (fun hp=>?_);obtain ⟨pa49, hpa49, hva49⟩ := hp;refine zV R3 (hva49 ⟨rfl, rfl⟩ rfl rfl) (zV R3 (Val.load_es (c := [_]) hpa49 M1 ⟨⟨_, rfl, rfl⟩, rfl, by decide⟩ rfl rfl rfl) (zM R4 ?_));obtain ⟨y52, hr52, h⟩ := andx_some h;refine TO.callT (first := []) (cap := []) (vs := [.agg [a49.could.v], iv ((all33.length : Int))]) rfl rfl rfl rfl rfl rfl (orcN rfl) (tf_r4_item aD (Rdl.mono (Rdl.gs (C := C) a49.could) M1) hr52) ?_;rintro _;refine zG (_::C) rfl (zA R4 (zN (zU rfl (zM R4 ?_))));obtain ⟨c54, hc54⟩ := zY (¬ y52 = 0);refine zV R3 (Val.neq hc54 rfl rfl) (zN ?_);obtain ⟨rfl, hc54, h⟩ | ⟨rfl, hc54, h⟩ := zI hc54 h
    ·refine zC rfl (zU rfl (zM R4 (zM R4 (zA R4 (zA R4 (zA R4 (zN (zR ?_))))))));cases h;exact ⟨ret_ne, ⟨ret_ne, ⟨rfl, _, rfl, ⟨(), rfl, (pk [98] rfl)⟩⟩⟩⟩
    refine zD rfl (zK (zT rfl (zM R4 ?_)));obtain ⟨hk45, h⟩ := chk_some h;refine zV R3 (Val.add rfl rfl hk45) (zA R4 (zN ?_));cases h;exact ⟨rfl, (), (sb .refl)⟩
   refine zD rfl (zE ?_);cases h;exact ⟨ex_ne, ⟨rfl, (), (sb .refl)⟩⟩
  ·rintro _ _ h;refine zU rfl (zA R4 (zN ?_))
   show T _ _ _ _ _ _;apply T.join (r := r) (W := Unit) (fun j w => ⟨[], [], .row b1 3 [iv (c_Book_Signed), v_c_Book_Gatherings, v_c_Items] :: C⟩) h
   ·intro j h;refine zU rfl (zA R4 (zN (zB ?_)))
    show T _ _ _ _ _ _;apply T.iter (r := j) (W := Unit) (fun j w => ⟨[], [(1, .ptr b1 0 3), (10, iv (j.1)), (11, iv (j.2))], .row b1 3 [iv (c_Book_Signed), v_c_Book_Gatherings, v_c_Items] :: C⟩) (w0 := ()) h
    ·exact (sb .refl)
    rintro ⟨doubts, i⟩ _ a h;unfold P_r4_Check_L2 at h;dsimp only at h;dsimp only;refine zS (zU rfl (zM R4 (zF 2 R6 (zL 0 R3 R6 (zV R3 (Val.len_l h_c_Items M1 rfl rfl) ?_)))));obtain ⟨c61, hc61⟩ := zY (i < (c_Items.length : Int));refine zV R3 (Val.lss hc61 rfl rfl) (zN ?_);obtain ⟨rfl, hc61, h⟩ | ⟨rfl, hc61, h⟩ := zI hc61 h
    ·refine zC rfl (zK ?_)
     show T _ _ _ _ _ _;apply T.join (r := a) (W := Unit) (fun j w => ⟨[], [(1, .ptr b1 0 3), (10, iv (j)), (11, iv (i))], .row b1 3 [iv (c_Book_Signed), v_c_Book_Gatherings, v_c_Items] :: C⟩) h
     ·intro j h;refine zB ?_
      show T _ _ _ _ _ _;apply T.joinA (r := j) (W := Unit) (fun j w => ⟨[], [(1, .ptr b1 0 3), (10, iv (j)), (11, iv (i))], .row b1 3 [iv (c_Book_Signed), v_c_Book_Gatherings, v_c_Items] :: C⟩) h
      ·intro j h;refine zU rfl (zF 2 R6 (zL 0 R3 R6 (zM R4 ?_)));obtain ⟨a67, hia67, ea67, h⟩ := el_some h;refine TO.fact (rdl_at h_c_Items M1 hia67 ea67) (fun hp=>?_);obtain ⟨pa67, hpa67, hva67⟩ := hp;refine zV R3 (hva67 ⟨rfl, rfl⟩ rfl rfl) (zV R3 (Val.faddr_e (fo := 0) hpa67 rfl rfl rfl) (zV R3 (Val.load_e (PtE.add hpa67 (by decide)) M1 ⟨_, rfl, rfl⟩ rfl rfl) (zV R3 (Val.len_gs rfl rfl) ?_)));obtain ⟨c71, hc71⟩ := zY ((a67.could.l.length : Int) > 1);refine zV R3 (Val.gtr hc71 rfl rfl) (zN ?_);obtain ⟨rfl, hc71, h⟩ | ⟨rfl, hc71, h⟩ := zI hc71 h
       ·refine zC rfl (zT rfl (zM R4 ?_));obtain ⟨hk73, h⟩ := chk_some h;refine zV R3 (Val.add rfl rfl hk73) (zA R4 (zN ?_));cases h;exact ⟨rfl, (), (sb .refl)⟩
       refine zD rfl (zK ?_);cases h;exact ⟨rfl, (), (sb .refl)⟩
      ·rintro doubts_2 _ h;refine zU rfl (zM R4 ?_);obtain ⟨c75, hc75⟩ := zY (doubts_2 > 3);refine zV R3 (Val.gtr hc75 rfl rfl) (zN ?_);obtain ⟨rfl, hc75, h⟩ | ⟨rfl, hc75, h⟩ := zI hc75 h
       ·refine zC rfl (zU rfl (zM R4 (zA R4 (zA R4 (zA R4 (zN (zR ?_)))))));cases h;exact ⟨ret_ne, ⟨ret_ne, ⟨ret_ne, ⟨rfl, _, rfl, ⟨(), rfl, (pk [98] rfl)⟩⟩⟩⟩⟩
       refine zD rfl (zK ?_);cases h;exact ⟨rfl, (), (sb .refl)⟩
     ·rintro doubts_2 _ h;refine zT rfl (zM R4 ?_);obtain ⟨hk63, h⟩ := chk_some h;refine zV R3 (Val.add rfl rfl hk63) (zA R4 (zN ?_));cases h;exact ⟨rfl, (), (sb .refl)⟩
    refine zD rfl (zE ?_);cases h;exact ⟨ex_ne, ⟨rfl, (), (sb .refl)⟩⟩
   ·rintro _ _ h;refine zU rfl (zA R4 (zA R4 (zA R4 (zN (zR ?_)))));cases h;exact ⟨rfl, _, rfl, ⟨(), rfl, (pk [98] rfl)⟩⟩
theorem w_r4_Check (c_Book_Signed : Int) (c_Book_Gatherings : GS encG) (c_Items : GS encIt) (r : Int × Int × Int) (h : P_r4_Check c_Book_Signed c_Book_Gatherings.l c_Items.l = some r) : Comes (EL 4) 29 [.agg [iv (c_Book_Signed), c_Book_Gatherings.v, c_Items.v]] (.tuple [iv r.1, iv r.2.1, iv r.2.2]) :=
 TF.run (tf_r4_Check (Nat.le_refl _) (RdT.gs c_Book_Gatherings) (RdT.gs c_Items) h) fun w => (.tuple (.cons .lit (.cons .lit (.cons .lit .nil))))
set_option maxRecDepth 10000 in
theorem tf_r4_All {k : Nat} (hk : 0 ≤ k) {C : List Thing} {c_Book_Signed : Int} {v_c_Book_Gatherings : AV} {c_Book_Gatherings : List Gat} {v_c_Items : AV} {c_Items : List Item} (ht_c_Book_Gatherings : RdT encG v_c_Book_Gatherings c_Book_Gatherings) (ht_c_Items : RdT encIt v_c_Items c_Items) {r : (List (List Int)) × Bool} (h : P_r4_All c_Book_Signed c_Book_Gatherings c_Items = some r) :
  TF (EL k) 36 [.agg [iv (c_Book_Signed), v_c_Book_Gatherings, v_c_Items]] C (RepF (fun (w : AV × (List AV)) => w.1) (fun (w : AV × (List AV)) => nestH r.2 w.1 r.1 w.2 :: (seg encI w.2 r.1 ++ C))) := by
 unfold P_r4_All at h
 have h_c_Book_Gatherings : Rdl C encG v_c_Book_Gatherings c_Book_Gatherings := RdT.rdl ht_c_Book_Gatherings
 have h_c_Items : Rdl C encIt v_c_Items c_Items := RdT.rdl ht_c_Items;refine TF.enter (fn := Go.Proofs.Tryz.f36) rfl rfl rfl rfl rfl (zU rfl (zQ 3 [_,_,_] R7 (fun b1=>zA R4 (zN (zU rfl (TO.nilown (u := encI.u) (TO.fact (own_cellS (p := 0) rfl) (fun hot2=>TO.eff rfl rfl rfl (Eff.new (New.buildSlice (en := encAV) (l := [nilS]) (vs := [(_, _)]) (ws := [(_, [_])]) ⟨rfl, rfl⟩ rfl rfl rfl rfl (CellsL.cons hot2.1 CellsL.nil) rfl rfl)) ?_))))))));rintro _ _ ⟨v9_2, rfl, rfl⟩;refine TO.less (Less.rowOwn (en := encAV) (l := [nilS]) (p := 0) rfl) (zG (_::_::_::C) rfl (TO.less (Pk.less (Pk.pick (p := 0) rfl (Pk.pick (p := 1) rfl (Pk.pick (p := 0) rfl Pk.refl)))) (zG (_::_::(seg encI [nilS] [([] : List Int)] ++ C)) rfl (zA R4 (zN ?_)))))
 show T _ _ _ _ _ _;apply T.joinA (r := r) (W := AV × (List AV)) (fun j w => ⟨[], [(3, w.1)], nestH j.2 w.1 j.1 w.2 :: .row b1 3 [iv (c_Book_Signed), v_c_Book_Gatherings, v_c_Items] :: (seg encI w.2 j.1 ++ C)⟩) h
 ·intro j h;refine zU rfl (zA R4 (zN (zB ?_)))
  show T _ _ _ _ _ _;apply T.iter (r := j) (W := AV × (List AV)) (fun j w => ⟨[], [(1, .ptr b1 0 3), (3, w.1), (4, iv (j.1))], nestH j.2.2 w.1 j.2.1 w.2 :: .row b1 3 [iv (c_Book_Signed), v_c_Book_Gatherings, v_c_Items] :: (seg encI w.2 j.2.1 ++ C)⟩) (w0 := ((.slice v9_2 0 (List.flatMap encAV.f [nilS]).length true (List.length [nilS]) (List.length [nilS])), [nilS])) h
  ·exact (sb .refl)
  rintro ⟨i, l9, z⟩ ⟨vn4, wsn4⟩ a h;unfold P_r4_All_L1 at h;dsimp only at h;dsimp only;refine zS (zU rfl (zM R4 (zF 2 R6 (zL 1 R3 R6 (zV R3 (Val.len_l h_c_Items (memS (memS (memG mem0))) rfl rfl) ?_)))));obtain ⟨c14, hc14⟩ := zY (i < (c_Items.length : Int));refine zV R3 (Val.lss hc14 rfl rfl) (zN ?_);obtain ⟨rfl, hc14, h⟩ | ⟨rfl, hc14, h⟩ := zI hc14 h
  ·refine zC rfl (zK ?_)
   show T _ _ _ _ _ _;apply T.joinA (r := a) (W := AV × (List AV)) (fun j w => ⟨[], [(1, .ptr b1 0 3), (3, w.1), (4, iv (i))], nestH true w.1 j w.2 :: nestH z vn4 l9 wsn4 :: .row b1 3 [iv (c_Book_Signed), v_c_Book_Gatherings, v_c_Items] :: (seg encI w.2 j ++ (seg encI wsn4 l9 ++ C))⟩) h
   ·intro j h;refine zB (zU rfl (zF 2 R6 (zL 1 R3 R6 (zM R4 ?_))));obtain ⟨a20, hia20, ea20, h⟩ := el_some h;refine TO.fact (rdl_at h_c_Items (memS (memS (memG mem0))) hia20 ea20) (fun hp=>?_);obtain ⟨pa20, hpa20, hva20⟩ := hp;refine zV R3 (hva20 ⟨rfl, rfl⟩ rfl rfl) (zV R3 (Val.faddr_e (fo := 0) hpa20 rfl rfl rfl) (zV R3 (Val.load_e (PtE.add hpa20 (by decide)) (memS (memS (memG mem0))) ⟨_, rfl, rfl⟩ rfl rfl) (zA R4 (zN (zS (zU rfl (zM R4 (zV R3 (Val.len_gs rfl rfl) ?_))))))));obtain ⟨c25, hc25⟩ := zY ((a20.could.l.length : Int) = 0);refine zV R3 (Val.eql hc25 rfl rfl) (zN ?_);obtain ⟨rfl, hc25, h⟩ | ⟨rfl, hc25, h⟩ := zI hc25 h
    ·refine zC rfl (zT rfl (TO.build1 (en := encI) (a := (-1)) rfl rfl rfl ⟨rfl, rfl⟩ ⟨_, rfl, rfl⟩ (by decide) (by decide) rfl rfl (fun v26=>zA R4 (zN (zU rfl (zA R4 (zN ?_)))))))
     show T _ _ _ _ _ _;apply T.joinA (r := j) (W := AV × (List AV)) (fun j w => ⟨[], [(1, .ptr b1 0 3), (4, iv (i)), (6, w.1)], nestH true w.1 j w.2 :: ownL false v26 encI [(-1)] :: nestH z vn4 l9 wsn4 :: .row b1 3 [iv (c_Book_Signed), v_c_Book_Gatherings, v_c_Items] :: (seg encI w.2 j ++ (seg encI wsn4 l9 ++ C))⟩) h
     ·intro j h;refine zU rfl (zA R4 (zN (zB (T.nilown (u := 1) (T.things (hs' := nestH true nilS ([] : List (List Int)) [] :: ownL false v26 encI [(-1)] :: nestH z vn4 l9 wsn4 :: .row b1 3 [iv (c_Book_Signed), v_c_Book_Gatherings, v_c_Items] :: (seg encI [] ([] : List (List Int)) ++ (seg encI wsn4 l9 ++ C))) rfl ?_)))))
      show T _ _ _ _ _ _;apply T.iter (r := j) (W := AV × (List AV)) (fun j w => ⟨[], [(1, .ptr b1 0 3), (3, vn4), (4, iv (i)), (5, v26), (6, w.1), (7, iv (j.1))], nestH true w.1 j.2 w.2 :: ownL false v26 encI [(-1)] :: nestH z vn4 l9 wsn4 :: .row b1 3 [iv (c_Book_Signed), v_c_Book_Gatherings, v_c_Items] :: (seg encI w.2 j.2 ++ (seg encI wsn4 l9 ++ C))⟩) (w0 := (nilS, [])) h
      ·exact (sb .refl)
      rintro ⟨k_, next⟩ ⟨vn8, wsn8⟩ a h;unfold P_r4_All_L2 at h;dsimp only at h;dsimp only;refine zS (zU rfl (zM R4 (zM R4 (zV R3 (Val.len_nest (p := 2) rfl rfl rfl) ?_))));obtain ⟨c30, hc30⟩ := zY (k_ < (l9.length : Int));refine zV R3 (Val.lss hc30 rfl rfl) (zN ?_);obtain ⟨rfl, hc30, h⟩ | ⟨rfl, hc30, h⟩ := zI hc30 h
      ·refine zC rfl (zK ?_)
       show T _ _ _ _ _ _;apply T.joinA (r := a) (W := AV × (List AV)) (fun j w => ⟨[], [(1, .ptr b1 0 3), (3, vn4), (4, iv (i)), (5, v26), (6, w.1), (7, iv (k_))], nestH true w.1 j w.2 :: ownL false v26 encI [(-1)] :: nestH z vn4 l9 wsn4 :: .row b1 3 [iv (c_Book_Signed), v_c_Book_Gatherings, v_c_Items] :: (seg encI w.2 j ++ (seg encI wsn4 l9 ++ C))⟩) h
       ·intro j h;refine zB (zU rfl (zA R4 (zN (zB ?_))))
        show T _ _ _ _ _ _;apply T.iter (r := j) (W := AV × (List AV)) (fun j w => ⟨[], [(1, .ptr b1 0 3), (3, vn4), (4, iv (i)), (5, v26), (6, w.1), (7, iv (k_)), (8, iv (j.1))], nestH true w.1 j.2 w.2 :: ownL false v26 encI [(-1)] :: nestH z vn4 l9 wsn4 :: .row b1 3 [iv (c_Book_Signed), v_c_Book_Gatherings, v_c_Items] :: (seg encI w.2 j.2 ++ (seg encI wsn4 l9 ++ C))⟩) (w0 := (vn8, wsn8)) h
        ·exact (sb .refl)
        rintro ⟨n, next_2⟩ ⟨vn8_2, wsn8_2⟩ a h;unfold P_r4_All_L3 at h;dsimp only at h;dsimp only;refine zS (zU rfl (zM R4 (zM R4 (zV R3 (Val.len_own (p := 1) rfl rfl rfl) ?_))));obtain ⟨c36, hc36⟩ := zY (n < ([(-1)].length : Int));refine zV R3 (Val.lss hc36 rfl rfl) (zN ?_);obtain ⟨rfl, hc36, h⟩ | ⟨rfl, hc36, h⟩ := zI hc36 h
        ·refine zC rfl (zK (zS (zB (T.drawE (l1 := [0, 1, 2, 3, 4, 5, 7, 8, 9, 10, 11]) (l2 := [6, 12, 13, 14, 15]) (by kernel_rfl) (by kernel_rfl) (yL R4 (Val.move rfl) (TD1.floatN rfl rfl rfl rfl (New.buildSlice (en := encI) (l := ([] : List Int)) (vs := []) (ws := []) ⟨rfl, rfl⟩ rfl rfl rfl rfl CellsL.nil rfl rfl) (fun v40=>yL R4 (Val.move rfl) (yL R4 (Val.move rfl) ?_))))))));obtain ⟨a43, hia43, ea43, h⟩ := el_some h;refine TD1.fact (nest_at (en := encI) (p := 3) rfl hia43 ea43) (fun hp=>?_);obtain ⟨ida43, wa43, ata43, ewa43, hma43⟩ := hp;refine yL R4 (Val.iaddr_nest ata43 ⟨rfl, rfl⟩ rfl rfl hia43) (yR R4 (Val.load_nest (p := 3) rfl ata43 ⟨_, rfl, rfl⟩ rfl ewa43) ?_)
         have hna43 : Rdl (seg encI wsn8_2 next_2 ++ (seg encI wsn4 l9 ++ C)) encI wa43 a43 := .inr ⟨true, (List.mem_append_right _ (List.mem_append_left _ hma43))⟩;refine yL R4 (Val.move rfl) (yL R4 (Val.move rfl) ?_);obtain ⟨a48, hia48, ea48, h⟩ := el_some h;refine TD1.fact (own_at (en := encI) (p := 2) rfl hia48) (fun hp=>?_);obtain ⟨ida48, ata48⟩ := hp;refine yL R4 (Val.iaddr_at (en := encI) ata48 ⟨rfl, rfl⟩ rfl rfl hia48) (yR R4 (Val.load_ownL (en := encI) (p := 2) (j := 0) rfl ata48 ⟨_, rfl, rfl⟩ rfl ea48 rfl) (TD1.floatN rfl rfl rfl rfl (New.buildSlice (en := encI) (l := [a48]) (vs := [(_, _)]) (ws := [(_, [_])]) ⟨rfl, rfl⟩ rfl rfl rfl rfl (CellsL.cons rfl CellsL.nil) rfl rfl) (fun v50=>TD1.over (fun v => sameC_refl v) (all_cons (⟨_, rfl, (Val.load_ownL (en := encI) (p := 3) (j := 0) rfl ata48 ⟨_, rfl, rfl⟩ rfl ea48 rfl)⟩) (all_cons (⟨_, rfl, (Val.load_nest (p := 4) rfl ata43 ⟨_, rfl, rfl⟩ rfl ewa43)⟩) all_nil)) (TD2.less (Less.floatOwn (en := encI) (l := ([] : List Int)) (p := 1) rfl) (yG (_::_::_::_::_::_::(seg encI wsn8_2 next_2 ++ (seg encI wsn4 l9 ++ C))) rfl ?_)))));obtain ⟨hk45, h⟩ := chk_some h;refine TD2.heavy (fun v => sameC_refl v) rfl (by decide) rfl rfl (OpS.eff (Eff.append_l (b := 8) (en := encI) (l := ([] : List Int)) (p := 1) ⟨rfl, rfl, rfl, ⟨_, rfl, rfl⟩, by decide, by decide⟩ rfl rfl rfl hna43 M6 rfl rfl (flat_ones _) (by decide) hk45)) ?_;rintro v45 _ rfl;refine ⟨(all_cons (.inr ⟨_, rfl, (Val.load_ownL (en := encI) (p := 3) (j := 0) rfl ata48 ⟨_, rfl, rfl⟩ rfl ea48 rfl)⟩) (all_cons (.inl (by kernel_rfl)) all_nil)), (all_cons (.inr (by repeat first | exact List.mem_cons_self | apply List.mem_cons_of_mem)) (all_cons (.inl (by kernel_rfl)) all_nil)), ?_⟩;refine yG (_::_::_::_::_::_::(seg encI wsn8_2 next_2 ++ (seg encI wsn4 l9 ++ C))) rfl (TD2.less (Less.floatOwn (en := encI) (l := [a48]) (p := 0) rfl) (yG (_::_::_::_::_::_::(seg encI wsn8_2 next_2 ++ (seg encI wsn4 l9 ++ C))) rfl ?_));obtain ⟨hk51, h⟩ := chk_some h;refine TD2.heavy (fun v => sameC_refl v) rfl (by decide) rfl rfl (OpS.eff (Eff.append_own (b := 8) (en := encI) (l := (([] : List Int) ++ a43)) (l2 := [a48]) (p := 1) (q := 0) ⟨rfl, rfl, rfl, ⟨_, rfl, rfl⟩, by decide, by decide⟩ rfl rfl rfl rfl rfl rfl (flat_ones _) (by decide) hk51)) ?_;rintro v51 _ rfl;refine ⟨(all_cons (.inl (by kernel_rfl)) (all_cons (.inl (by kernel_rfl)) all_nil)), (all_cons (.inl (by kernel_rfl)) (all_cons (.inl (by kernel_rfl)) all_nil)), ?_⟩;refine yG (_::_::_::_::_::_::(seg encI wsn8_2 next_2 ++ (seg encI wsn4 l9 ++ C))) rfl (TD2.less (Less.ownTrue (p := 1) rfl (.inr (by simp))) (yG (_::_::_::_::_::_::(seg encI wsn8_2 next_2 ++ (seg encI wsn4 l9 ++ C))) rfl (TD2.fact (own_cellS (p := 1) rfl) (fun hot9=>TD2.heavy (fun v => sameC_refl v) rfl (by decide) rfl rfl (OpS.eff (Eff.new (New.buildSlice (en := encAV) (l := [v51]) (vs := [(_, _)]) (ws := [(_, [_])]) ⟨rfl, rfl⟩ rfl rfl rfl rfl (CellsL.cons hot9.1 CellsL.nil) rfl rfl))) ?_))));rintro _ _ ⟨v52_2, rfl, rfl⟩;refine ⟨(all_cons (.inl (by kernel_rfl)) (all_cons (.inl (by kernel_rfl)) all_nil)), (all_cons (.inl (by kernel_rfl)) (all_cons (.inl (by kernel_rfl)) all_nil)), ?_⟩
         refine TD2.less (Less.rowOwn (en := encAV) (l := [v51]) (p := 0) rfl) (yG (_::_::_::_::_::_::_::(seg encI wsn8_2 next_2 ++ (seg encI wsn4 l9 ++ C))) rfl (TD2.less (Pk.less (Pk.pick (p := 0) rfl (Pk.pick (p := 0) rfl (Pk.pick (p := 1) rfl (Pk.pick (p := 1) rfl (Pk.pick (p := 1) rfl (Pk.pick (p := 1) rfl (Pk.pick (p := 0) rfl Pk.refl)))))))) (yG (_::_::_::_::_::_::(seg encI [v51] [(([] : List Int) ++ a43) ++ [a48]] ++ (seg encI wsn8_2 next_2 ++ (seg encI wsn4 l9 ++ C)))) rfl ?_)));obtain ⟨hk53, h⟩ := chk_some h;refine TD2.fact (nest_len (p := 2) rfl) (fun hl53=>TD2.fact (nest_len (p := 0) rfl) (fun hm53=>TD2.heavy (fun v => sameC_refl v) rfl (by decide) rfl rfl (OpS.eff (Eff.append_nest (b := 24) (ls := next_2) (ls2 := [(([] : List Int) ++ a43) ++ [a48]]) (p := 2) (q := 0) ⟨rfl, rfl, rfl, ⟨_, rfl, rfl⟩, by decide, by decide⟩ rfl rfl rfl rfl rfl rfl (seg_ones (en := encI) hm53 (fun x hx => M6 x (List.mem_append_left _ hx))) (by decide) hk53)) ?_));rintro v53 _ rfl;refine ⟨(all_cons (.inl (by kernel_rfl)) (all_cons (.inl (by kernel_rfl)) all_nil)), (all_cons (.inl (by kernel_rfl)) (all_cons (.inl (by kernel_rfl)) all_nil)), ?_⟩;refine yG ([nestH false (.slice v52_2 0 (List.flatMap encAV.f [v51]).length true (List.length [v51]) (List.length [v51])) [(([] : List Int) ++ a43) ++ [a48]] [v51], ownL false (.slice v50 0 (List.flatMap encI.f [a48]).length true (List.length [a48]) (List.length [a48])) encI [a48], nestH true v53 (next_2 ++ [(([] : List Int) ++ a43) ++ [a48]]) (wsn8_2 ++ [v51]), ownL false v26 encI [(-1)], nestH z vn4 l9 wsn4, .row b1 3 [iv (c_Book_Signed), v_c_Book_Gatherings, v_c_Items]] ++ (seg encI [v51] [(([] : List Int) ++ a43) ++ [a48]] ++ (seg encI wsn8_2 next_2 ++ (seg encI wsn4 l9 ++ C)))) rfl (TD2.less (Less.cat [nestH false (.slice v52_2 0 (List.flatMap encAV.f [v51]).length true (List.length [v51]) (List.length [v51])) [(([] : List Int) ++ a43) ++ [a48]] [v51], ownL false (.slice v50 0 (List.flatMap encI.f [a48]).length true (List.length [a48]) (List.length [a48])) encI [a48], nestH true v53 (next_2 ++ [(([] : List Int) ++ a43) ++ [a48]]) (wsn8_2 ++ [v51]), ownL false v26 encI [(-1)], nestH z vn4 l9 wsn4, .row b1 3 [iv (c_Book_Signed), v_c_Book_Gatherings, v_c_Items]] hl53) (yG (_::_::_::_::_::_::(seg encI (wsn8_2 ++ [v51]) (next_2 ++ [(([] : List Int) ++ a43) ++ [a48]]) ++ (seg encI wsn4 l9 ++ C))) rfl ?_));refine yM R4 (Val.assign rfl) (TD2.nil (zT rfl (zM R4 ?_)));obtain ⟨hk38, h⟩ := chk_some h;refine zV R3 (Val.add rfl rfl hk38) (zA R4 (zN ?_));cases h;exact ⟨rfl, (v53, wsn8_2 ++ [v51]), (sb (pk [2,2,2,2,98,98] rfl))⟩
        refine zD rfl (zE ?_);cases h;exact ⟨ex_ne, ⟨rfl, (vn8_2, wsn8_2), (sb .refl)⟩⟩
       ·rintro next_2 ⟨vn8_2, wsn8_2⟩ h;dsimp only;refine zT rfl (zM R4 ?_);obtain ⟨hk32, h⟩ := chk_some h;refine zV R3 (Val.add rfl rfl hk32) (zA R4 (zN ?_));cases h;exact ⟨rfl, (vn8_2, wsn8_2), (sb .refl)⟩
      refine zD rfl (zE ?_);cases h;exact ⟨ex_ne, ⟨rfl, (vn8, wsn8), (sb .refl)⟩⟩
     ·rintro next ⟨vn8, wsn8⟩ h;dsimp only;refine zT rfl (zM R4 (zA R4 (zN ?_)));cases h;exact ⟨rfl, (vn8, wsn8), (sb (pk [0,1,1,98] rfl))⟩
    refine zD rfl (zK (zU rfl (zA R4 (zN ?_))))
    show T _ _ _ _ _ _;apply T.joinA (r := j) (W := AV × (List AV)) (fun j w => ⟨[], [(1, .ptr b1 0 3), (4, iv (i)), (6, w.1)], nestH true w.1 j w.2 :: nestH z vn4 l9 wsn4 :: .row b1 3 [iv (c_Book_Signed), v_c_Book_Gatherings, v_c_Items] :: (seg encI w.2 j ++ (seg encI wsn4 l9 ++ C))⟩) h
    ·intro j h;refine zU rfl (zA R4 (zN (zB (T.nilown (u := 1) (T.things (hs' := nestH true nilS ([] : List (List Int)) [] :: nestH z vn4 l9 wsn4 :: .row b1 3 [iv (c_Book_Signed), v_c_Book_Gatherings, v_c_Items] :: (seg encI [] ([] : List (List Int)) ++ (seg encI wsn4 l9 ++ C))) rfl ?_)))))
     show T _ _ _ _ _ _;apply T.iter (r := j) (W := AV × (List AV)) (fun j w => ⟨[], [(1, .ptr b1 0 3), (3, vn4), (4, iv (i)), (5, a20.could.v), (6, w.1), (7, iv (j.1))], nestH true w.1 j.2 w.2 :: nestH z vn4 l9 wsn4 :: .row b1 3 [iv (c_Book_Signed), v_c_Book_Gatherings, v_c_Items] :: (seg encI w.2 j.2 ++ (seg encI wsn4 l9 ++ C))⟩) (w0 := (nilS, [])) h
     ·exact (sb .refl)
     rintro ⟨k_, next⟩ ⟨vn14, wsn14⟩ a h;unfold P_r4_All_L4 at h;dsimp only at h;dsimp only;refine zS (zU rfl (zM R4 (zM R4 (zV R3 (Val.len_nest (p := 1) rfl rfl rfl) ?_))));obtain ⟨c30, hc30⟩ := zY (k_ < (l9.length : Int));refine zV R3 (Val.lss hc30 rfl rfl) (zN ?_);obtain ⟨rfl, hc30, h⟩ | ⟨rfl, hc30, h⟩ := zI hc30 h
     ·refine zC rfl (zK ?_)
      show T _ _ _ _ _ _;apply T.joinA (r := a) (W := AV × (List AV)) (fun j w => ⟨[], [(1, .ptr b1 0 3), (3, vn4), (4, iv (i)), (5, a20.could.v), (6, w.1), (7, iv (k_))], nestH true w.1 j w.2 :: nestH z vn4 l9 wsn4 :: .row b1 3 [iv (c_Book_Signed), v_c_Book_Gatherings, v_c_Items] :: (seg encI w.2 j ++ (seg encI wsn4 l9 ++ C))⟩) h
      ·intro j h;refine zB (zU rfl (zA R4 (zN (zB ?_))))
       show T _ _ _ _ _ _;apply T.iter (r := j) (W := AV × (List AV)) (fun j w => ⟨[], [(1, .ptr b1 0 3), (3, vn4), (4, iv (i)), (5, a20.could.v), (6, w.1), (7, iv (k_)), (8, iv (j.1))], nestH true w.1 j.2 w.2 :: nestH z vn4 l9 wsn4 :: .row b1 3 [iv (c_Book_Signed), v_c_Book_Gatherings, v_c_Items] :: (seg encI w.2 j.2 ++ (seg encI wsn4 l9 ++ C))⟩) (w0 := (vn14, wsn14)) h
       ·exact (sb .refl)
       rintro ⟨n, next_2⟩ ⟨vn14_2, wsn14_2⟩ a h;unfold P_r4_All_L5 at h;dsimp only at h;dsimp only;refine zS (zU rfl (zM R4 (zM R4 (zV R3 (Val.len_gs rfl rfl) ?_))));obtain ⟨c36, hc36⟩ := zY (n < (a20.could.l.length : Int));refine zV R3 (Val.lss hc36 rfl rfl) (zN ?_);obtain ⟨rfl, hc36, h⟩ | ⟨rfl, hc36, h⟩ := zI hc36 h
       ·refine zC rfl (zK (zS (zB (T.drawE (l1 := [0, 1, 2, 3, 4, 5, 7, 8, 9, 10, 11]) (l2 := [6, 12, 13, 14, 15]) (by kernel_rfl) (by kernel_rfl) (yL R4 (Val.move rfl) (TD1.floatN rfl rfl rfl rfl (New.buildSlice (en := encI) (l := ([] : List Int)) (vs := []) (ws := []) ⟨rfl, rfl⟩ rfl rfl rfl rfl CellsL.nil rfl rfl) (fun v40=>yL R4 (Val.move rfl) (yL R4 (Val.move rfl) ?_))))))));obtain ⟨a43, hia43, ea43, h⟩ := el_some h;refine TD1.fact (nest_at (en := encI) (p := 2) rfl hia43 ea43) (fun hp=>?_);obtain ⟨ida43, wa43, ata43, ewa43, hma43⟩ := hp;refine yL R4 (Val.iaddr_nest ata43 ⟨rfl, rfl⟩ rfl rfl hia43) (yR R4 (Val.load_nest (p := 2) rfl ata43 ⟨_, rfl, rfl⟩ rfl ewa43) ?_)
        have hna43 : Rdl (seg encI wsn14_2 next_2 ++ (seg encI wsn4 l9 ++ C)) encI wa43 a43 := .inr ⟨true, (List.mem_append_right _ (List.mem_append_left _ hma43))⟩;refine yL R4 (Val.move rfl) (yL R4 (Val.move rfl) ?_);obtain ⟨a48, hia48, ea48, h⟩ := el_some h;refine TD1.fact (rdl_at (Rdl.gs (C := C) a20.could) (memS (memS (memS (memS (memG (memG mem0)))))) hia48 ea48) (fun hp=>?_);obtain ⟨pa48, hpa48, hva48⟩ := hp;refine yL R4 (hva48 ⟨rfl, rfl⟩ rfl rfl) (yR R4 (Val.load_e hpa48 (memS (memS (memS (memS (memG (memG mem0)))))) ⟨_, rfl, rfl⟩ rfl rfl) (TD1.floatN rfl rfl rfl rfl (New.buildSlice (en := encI) (l := [a48]) (vs := [(_, _)]) (ws := [(_, [_])]) ⟨rfl, rfl⟩ rfl rfl rfl rfl (CellsL.cons rfl CellsL.nil) rfl rfl) (fun v50=>TD1.over (fun v => sameC_refl v) (all_cons (⟨_, rfl, (Val.load_e hpa48 (memS (memS (memS (memS (memS (memG (memG mem0))))))) ⟨_, rfl, rfl⟩ rfl rfl)⟩) (all_cons (⟨_, rfl, (Val.load_nest (p := 3) rfl ata43 ⟨_, rfl, rfl⟩ rfl ewa43)⟩) all_nil)) (TD2.less (Less.floatOwn (en := encI) (l := ([] : List Int)) (p := 1) rfl) (yG (_::_::_::_::_::(seg encI wsn14_2 next_2 ++ (seg encI wsn4 l9 ++ C))) rfl ?_)))));obtain ⟨hk45, h⟩ := chk_some h;refine TD2.heavy (fun v => sameC_refl v) rfl (by decide) rfl rfl (OpS.eff (Eff.append_l (b := 8) (en := encI) (l := ([] : List Int)) (p := 1) ⟨rfl, rfl, rfl, ⟨_, rfl, rfl⟩, by decide, by decide⟩ rfl rfl rfl hna43 M5 rfl rfl (flat_ones _) (by decide) hk45)) ?_;rintro v45 _ rfl;refine ⟨(all_cons (.inr ⟨_, rfl, (Val.load_e hpa48 (memS (memS (memS (memS (memS (memG (memG mem0))))))) ⟨_, rfl, rfl⟩ rfl rfl)⟩) (all_cons (.inl (by kernel_rfl)) all_nil)), (all_cons (.inr (by repeat first | exact List.mem_cons_self | apply List.mem_cons_of_mem)) (all_cons (.inl (by kernel_rfl)) all_nil)), ?_⟩;refine yG (_::_::_::_::_::(seg encI wsn14_2 next_2 ++ (seg encI wsn4 l9 ++ C))) rfl (TD2.less (Less.floatOwn (en := encI) (l := [a48]) (p := 0) rfl) (yG (_::_::_::_::_::(seg encI wsn14_2 next_2 ++ (seg encI wsn4 l9 ++ C))) rfl ?_));obtain ⟨hk51, h⟩ := chk_some h;refine TD2.heavy (fun v => sameC_refl v) rfl (by decide) rfl rfl (OpS.eff (Eff.append_own (b := 8) (en := encI) (l := (([] : List Int) ++ a43)) (l2 := [a48]) (p := 1) (q := 0) ⟨rfl, rfl, rfl, ⟨_, rfl, rfl⟩, by decide, by decide⟩ rfl rfl rfl rfl rfl rfl (flat_ones _) (by decide) hk51)) ?_;rintro v51 _ rfl;refine ⟨(all_cons (.inl (by kernel_rfl)) (all_cons (.inl (by kernel_rfl)) all_nil)), (all_cons (.inl (by kernel_rfl)) (all_cons (.inl (by kernel_rfl)) all_nil)), ?_⟩;refine yG (_::_::_::_::_::(seg encI wsn14_2 next_2 ++ (seg encI wsn4 l9 ++ C))) rfl (TD2.less (Less.ownTrue (p := 1) rfl (.inr (by simp))) (yG (_::_::_::_::_::(seg encI wsn14_2 next_2 ++ (seg encI wsn4 l9 ++ C))) rfl (TD2.fact (own_cellS (p := 1) rfl) (fun hot15=>TD2.heavy (fun v => sameC_refl v) rfl (by decide) rfl rfl (OpS.eff (Eff.new (New.buildSlice (en := encAV) (l := [v51]) (vs := [(_, _)]) (ws := [(_, [_])]) ⟨rfl, rfl⟩ rfl rfl rfl rfl (CellsL.cons hot15.1 CellsL.nil) rfl rfl))) ?_))));rintro _ _ ⟨v52_2, rfl, rfl⟩
        refine ⟨(all_cons (.inl (by kernel_rfl)) (all_cons (.inl (by kernel_rfl)) all_nil)), (all_cons (.inl (by kernel_rfl)) (all_cons (.inl (by kernel_rfl)) all_nil)), ?_⟩;refine TD2.less (Less.rowOwn (en := encAV) (l := [v51]) (p := 0) rfl) (yG (_::_::_::_::_::_::(seg encI wsn14_2 next_2 ++ (seg encI wsn4 l9 ++ C))) rfl (TD2.less (Pk.less (Pk.pick (p := 0) rfl (Pk.pick (p := 0) rfl (Pk.pick (p := 1) rfl (Pk.pick (p := 1) rfl (Pk.pick (p := 1) rfl (Pk.pick (p := 0) rfl Pk.refl))))))) (yG (_::_::_::_::_::(seg encI [v51] [(([] : List Int) ++ a43) ++ [a48]] ++ (seg encI wsn14_2 next_2 ++ (seg encI wsn4 l9 ++ C)))) rfl ?_)));obtain ⟨hk53, h⟩ := chk_some h;refine TD2.fact (nest_len (p := 2) rfl) (fun hl53=>TD2.fact (nest_len (p := 0) rfl) (fun hm53=>TD2.heavy (fun v => sameC_refl v) rfl (by decide) rfl rfl (OpS.eff (Eff.append_nest (b := 24) (ls := next_2) (ls2 := [(([] : List Int) ++ a43) ++ [a48]]) (p := 2) (q := 0) ⟨rfl, rfl, rfl, ⟨_, rfl, rfl⟩, by decide, by decide⟩ rfl rfl rfl rfl rfl rfl (seg_ones (en := encI) hm53 (fun x hx => M5 x (List.mem_append_left _ hx))) (by decide) hk53)) ?_));rintro v53 _ rfl;refine ⟨(all_cons (.inl (by kernel_rfl)) (all_cons (.inl (by kernel_rfl)) all_nil)), (all_cons (.inl (by kernel_rfl)) (all_cons (.inl (by kernel_rfl)) all_nil)), ?_⟩;refine yG ([nestH false (.slice v52_2 0 (List.flatMap encAV.f [v51]).length true (List.length [v51]) (List.length [v51])) [(([] : List Int) ++ a43) ++ [a48]] [v51], ownL false (.slice v50 0 (List.flatMap encI.f [a48]).length true (List.length [a48]) (List.length [a48])) encI [a48], nestH true v53 (next_2 ++ [(([] : List Int) ++ a43) ++ [a48]]) (wsn14_2 ++ [v51]), nestH z vn4 l9 wsn4, .row b1 3 [iv (c_Book_Signed), v_c_Book_Gatherings, v_c_Items]] ++ (seg encI [v51] [(([] : List Int) ++ a43) ++ [a48]] ++ (seg encI wsn14_2 next_2 ++ (seg encI wsn4 l9 ++ C)))) rfl (TD2.less (Less.cat [nestH false (.slice v52_2 0 (List.flatMap encAV.f [v51]).length true (List.length [v51]) (List.length [v51])) [(([] : List Int) ++ a43) ++ [a48]] [v51], ownL false (.slice v50 0 (List.flatMap encI.f [a48]).length true (List.length [a48]) (List.length [a48])) encI [a48], nestH true v53 (next_2 ++ [(([] : List Int) ++ a43) ++ [a48]]) (wsn14_2 ++ [v51]), nestH z vn4 l9 wsn4, .row b1 3 [iv (c_Book_Signed), v_c_Book_Gatherings, v_c_Items]] hl53) (yG (_::_::_::_::_::(seg encI (wsn14_2 ++ [v51]) (next_2 ++ [(([] : List Int) ++ a43) ++ [a48]]) ++ (seg encI wsn4 l9 ++ C))) rfl (yM R4 (Val.assign rfl) (TD2.nil (zT rfl (zM R4 ?_))))));obtain ⟨hk38, h⟩ := chk_some h;refine zV R3 (Val.add rfl rfl hk38) (zA R4 (zN ?_));cases h;exact ⟨rfl, (v53, wsn14_2 ++ [v51]), (sb (pk [2,2,2,98,98] rfl))⟩
       refine zD rfl (zE ?_);cases h;exact ⟨ex_ne, ⟨rfl, (vn14_2, wsn14_2), (sb .refl)⟩⟩
      ·rintro next_2 ⟨vn14_2, wsn14_2⟩ h;dsimp only;refine zT rfl (zM R4 ?_);obtain ⟨hk32, h⟩ := chk_some h;refine zV R3 (Val.add rfl rfl hk32) (zA R4 (zN ?_));cases h;exact ⟨rfl, (vn14_2, wsn14_2), (sb .refl)⟩
     refine zD rfl (zE ?_);cases h;exact ⟨ex_ne, ⟨rfl, (vn14, wsn14), (sb .refl)⟩⟩
    ·rintro next ⟨vn14, wsn14⟩ h;dsimp only;refine zT rfl (zM R4 (zA R4 (zN ?_)));cases h;exact ⟨rfl, (vn14, wsn14), (sb .refl)⟩
   ·rintro next ⟨vn8, wsn8⟩ h;dsimp only;refine zT rfl (zM R4 ?_);obtain ⟨hk16, h⟩ := chk_some h;refine zV R3 (Val.add rfl rfl hk16) (zA R4 (zN ?_));cases h;exact ⟨rfl, (vn8, wsn8), (sb (.pick (p := 0) rfl (.pick (p := 1) rfl (.drop (.consA (.dropA .refl))))))⟩
  refine zD rfl (zE ?_);cases h;exact ⟨ex_ne, ⟨rfl, (vn4, wsn4), (sb .refl)⟩⟩
 ·rintro ⟨l9, z⟩ ⟨vn4, wsn4⟩ h;dsimp only at h;dsimp only;refine zU rfl (zM R4 (zA R4 (zN (zR ?_))));cases h;exact ⟨rfl, _, rfl, ⟨(vn4, wsn4), rfl, (pk [0,98] rfl)⟩⟩
theorem w_r4_All (c_Book_Signed : Int) (c_Book_Gatherings : GS encG) (c_Items : GS encIt) (r : (List (List Int)) × Bool) (h : P_r4_All c_Book_Signed c_Book_Gatherings.l c_Items.l = some r) : Comes (EL 0) 36 [.agg [iv (c_Book_Signed), c_Book_Gatherings.v, c_Items.v]] ((GSo r.2 (encSl encI) (List.map (GSo true encI) r.1)).v) :=
 TF.run (tf_r4_All (Nat.le_refl _) (RdT.gs c_Book_Gatherings) (RdT.gs c_Items) h) fun w => (.nest (p := 0) encI_lits rfl (fun x hx => M1 x (List.mem_append_left _ hx)))
end Go.Am.YthckcbfijdambaaGreat
end
section
namespace Go.Am
set_option linter.unusedVariables false
end Go.Am
end
section
namespace Go.Am.YthckcbfijdambaaGreat
open Go.Am Go.RowKit
set_option linter.unusedVariables false
set_option linter.unusedSimpArgs false
end Go.Am.YthckcbfijdambaaGreat
end
section
namespace Go.Am
set_option linter.unusedVariables false
noncomputable def P_r4_Wide_L1 (c_Book_Signed : Int) (c_Book_Gatherings : List Gat) (y8 : List (List Int)) (y8_2 : Bool) : (Int × Int × Int) → Option (Stp (Int × Int × Int) (Int × Int)) := fun (i, s_Lo, s_Hi) =>
  if i < (((GSo y8_2 (encSl encI) (List.map (GSo true encI) y8)).l).length : Int) then
    el ((GSo y8_2 (encSl encI) (List.map (GSo true encI) y8)).l) i fun a29 =>
    andx (P_r4_Of c_Book_Signed c_Book_Gatherings a29.l) fun (y31, y31_2, y31_3, y31_4, y31_5, y31_6, y31_7) =>
      chk (I64 (i + 1)) (
        some (Stp.ag ((i + 1), (min s_Lo y31_7), (max s_Hi y31_7))))
  else
    some (Stp.dn (s_Lo, s_Hi))
noncomputable def P_r4_Wide (c_Book_Signed : Int) (c_Book_Gatherings : List Gat) (c_Items : List Item) : Option (Int × Int) :=
  andx (P_r4_All c_Book_Signed c_Book_Gatherings c_Items) fun (y8, y8_2) =>
    el ((GSo y8_2 (encSl encI) (List.map (GSo true encI) y8)).l) 0 fun a12 =>
    andx (P_r4_Of c_Book_Signed c_Book_Gatherings a12.l) fun (y14, y14_2, y14_3, y14_4, y14_5, y14_6, y14_7) =>
      andx (
        iter (P_r4_Wide_L1 c_Book_Signed c_Book_Gatherings y8 y8_2) (1, y14_7, y14_7)) fun (s_Lo, s_Hi) =>
        some (s_Lo, s_Hi)
noncomputable def P_r4_Range (c_Book_Signed : Int) (c_Book_Gatherings : List Gat) (c_Items : List Item) : Option (Int × Int × Int) :=
 andx (P_r4_Check c_Book_Signed c_Book_Gatherings c_Items) fun (y9, y9_2, y9_3) =>
  if ¬ y9_3 = 0 then
   some (0, 0, y9_3)
  else
   andx (P_r4_Wide c_Book_Signed c_Book_Gatherings c_Items) fun (y18, y18_2) =>
    some (y18, y18_2, 0)
noncomputable def P_r4_Faults_L1 (c_Book_Signed : Int) (c_Book_Gatherings : List Gat) (y22 : List (List Int)) (y22_2 : Bool) : (Int × (List Int) × (List Int) × (List Int) × (List Int) × (List Int) × Int × Int) → Option (Stp (Int × (List Int) × (List Int) × (List Int) × (List Int) × (List Int) × Int × Int) ((List Int) × (List Int) × (List Int) × (List Int) × (List Int) × Int × Int)) := fun (i, best_Leaves, best_Leaves_2, best_Leaves_3, best_Leaves_4, best_Leaves_5, best_Pieces, best_All) =>
  if i < (((GSo y22_2 (encSl encI) (List.map (GSo true encI) y22)).l).length : Int) then
    andx (
      el ((GSo y22_2 (encSl encI) (List.map (GSo true encI) y22)).l) i fun a39 =>
      andx (P_r4_Of c_Book_Signed c_Book_Gatherings a39.l) fun (y41, y41_2, y41_3, y41_4, y41_5, y41_6, y41_7) =>
        if y41_7 < best_All then
          some (y41, y41_2, y41_4, y41_5, y41_6, y41_3, y41_7)
        else
          some (best_Leaves, best_Leaves_2, best_Leaves_3, best_Leaves_4, best_Leaves_5, best_Pieces, best_All)) fun (best_Leaves_6, best_Leaves_7, best_Leaves_8, best_Leaves_9, best_Leaves_10, best_Pieces_2, best_All_2) =>
      chk (I64 (i + 1)) (
        some (Stp.ag ((i + 1), best_Leaves_6, best_Leaves_7, best_Leaves_8, best_Leaves_9, best_Leaves_10, best_Pieces_2, best_All_2)))
  else
    some (Stp.dn (best_Leaves, best_Leaves_2, best_Leaves_3, best_Leaves_4, best_Leaves_5, best_Pieces, best_All))
noncomputable def P_r4_Faults (c_Book_Signed : Int) (c_Book_Gatherings : List Gat) (c_Items : List Item) : Option ((List Int) × Bool × (List Int) × Bool × Int × (List Int) × Bool × (List Int) × Bool × (List Int) × Bool × Int × Int) :=
  andx (P_r4_Check c_Book_Signed c_Book_Gatherings c_Items) fun (y13, y13_2, y13_3) =>
    if ¬ y13_3 = 0 then
      some ([], true, [], true, 0, [], true, [], true, [], true, 0, y13_3)
    else
      andx (P_r4_All c_Book_Signed c_Book_Gatherings c_Items) fun (y22, y22_2) =>
        el ((GSo y22_2 (encSl encI) (List.map (GSo true encI) y22)).l) 0 fun a26 =>
        andx (P_r4_Of c_Book_Signed c_Book_Gatherings a26.l) fun (y28, y28_2, y28_3, y28_4, y28_5, y28_6, y28_7) =>
          andx (
            iter (P_r4_Faults_L1 c_Book_Signed c_Book_Gatherings y22 y22_2) (1, y28, y28_2, y28_4, y28_5, y28_6, y28_3, y28_7)) fun (best_Leaves, best_Leaves_2, best_Leaves_3, best_Leaves_4, best_Leaves_5, best_Pieces, best_All) =>
            some (best_Leaves, false, best_Leaves_2, true, best_Pieces, best_Leaves_3, true, best_Leaves_4, true, best_Leaves_5, true, best_All, 0)
noncomputable def P_r4_Same (a_Leaves : List Int) (a_Lost : List Int) (a_Pieces : Int) (a_Strange : List Int) (a_Twice : List Int) (a_Moved : List Int) (a_All : Int) (b_Leaves : List Int) (b_Lost : List Int) (b_Pieces : Int) (b_Strange : List Int) (b_Twice : List Int) (b_Moved : List Int) (b_All : Int) : Option Bool :=
  andx (
    andx (P_r1_Ints a_Leaves b_Leaves) fun same9 =>
      if same9 = true then
        andx (P_r1_Ints a_Lost b_Lost) fun same15 =>
          if same15 = true then
            if a_Pieces = b_Pieces then
              andx (P_r1_Ints a_Strange b_Strange) fun same29 =>
                if same29 = true then
                  andx (P_r1_Ints a_Twice b_Twice) fun same36 =>
                    if same36 = true then
                      andx (P_r1_Ints a_Moved b_Moved) fun same43 =>
                        if same43 = true then
                          some (decide (a_All = b_All))
                        else
                          some false
                    else
                      some false
                else
                  some false
            else
              some false
          else
            some false
      else
        some false) fun x4 =>
    some x4
end Go.Am
end
section
namespace Go.Am.YthckcbfijdambaaGreat
open Go.Am Go.RowKit
set_option linter.unusedVariables false
set_option linter.unusedSimpArgs false
set_option maxRecDepth 10000 in
theorem tf_r4_Wide {k : Nat} (hk : 3 ≤ k) {C : List Thing} {c_Book_Signed : Int} {v_c_Book_Gatherings : AV} {c_Book_Gatherings : List Gat} {v_c_Items : AV} {c_Items : List Item} (ht_c_Book_Gatherings : RdT encG v_c_Book_Gatherings c_Book_Gatherings) (ht_c_Items : RdT encIt v_c_Items c_Items) {r : Int × Int} (h : P_r4_Wide c_Book_Signed c_Book_Gatherings c_Items = some r) :
  TF (EL k) 58 [.agg [iv (c_Book_Signed), v_c_Book_Gatherings, v_c_Items]] C (RepF (fun (w : Unit) => .agg [iv r.1, iv r.2]) (fun (w : Unit) => C)) := by
 unfold P_r4_Wide at h
 have h_c_Book_Gatherings : Rdl C encG v_c_Book_Gatherings c_Book_Gatherings := RdT.rdl ht_c_Book_Gatherings
 have h_c_Items : Rdl C encIt v_c_Items c_Items := RdT.rdl ht_c_Items;refine TF.enterG (fn := Go.Proofs.Tryz.f58) rfl rfl rfl rfl rfl (zU rfl (zQ 3 [_,_,_] R7 (fun b1=>zJ 2 [_,_] R7 (fun b2=>zN (zU rfl (zV R3 (vW 1 [_,_,_] R5 R4) ?_))))));obtain ⟨⟨y8, y8_2⟩, hr8, h⟩ := andx_some h;dsimp only at h;obtain ⟨g, hgg, hrg⟩ := Rdl.reif (hs := .row b2 2 [iv (0), iv (0)] :: .row b1 3 [iv (c_Book_Signed), v_c_Book_Gatherings, v_c_Items] :: C) h_c_Book_Gatherings M2 (ReifL.flat encG_tr);obtain ⟨g_2, hgg_2, hrg_2⟩ := Rdl.reif (hs := .row b2 2 [iv (0), iv (0)] :: .row b1 3 [iv (c_Book_Signed), v_c_Book_Gatherings, v_c_Items] :: C) h_c_Items M2 (ReifL.flat encIt_tr);refine TO.call rfl rfl rfl rfl rfl (orcL rfl aD) (.cons (.agg (.cons .lit (.cons (hrg _) (.cons (hrg_2 _) .nil)))) .nil) (sem_of (w_r4_All c_Book_Signed g g_2 _ (by try rw [hgg]; try rw [hgg_2]; exact hr8))) (zA R4 (zN (zS (T.drawE (l1 := [0, 1, 2, 3, 4]) (l2 := [5, 6, 7]) (by kernel_rfl) (by kernel_rfl) (yL R4 (Val.faddr_ptr (fo := 0) rfl rfl rfl) (yR R4 (vW 1 [_,_] R5 R4) (yL R4 (Val.move rfl) ?_)))))));obtain ⟨a12, hia12, ea12, h⟩ := el_some h;refine TD1.fact (rdl_at (Rdl.gs (C := C) (GSo y8_2 (encSl encI) (List.map (GSo true encI) y8))) M2 hia12 ea12) (fun hp=>?_);obtain ⟨pa12, hpa12, hva12⟩ := hp;refine yL R4 (hva12 ⟨rfl, rfl⟩ rfl rfl) (yR R4 (Val.load_e hpa12 M2 ⟨_, rfl, rfl⟩ rfl rfl) (TD1.over (fun v => sameC_refl v) (all_cons (⟨_, rfl, (Val.load_e hpa12 M2 ⟨_, rfl, rfl⟩ rfl rfl)⟩) (all_cons (⟨_, rfl, (vW 1 [_,_] R5 R4)⟩) all_nil)) ?_));obtain ⟨⟨y14, y14_2, y14_3, y14_4, y14_5, y14_6, y14_7⟩, hr14, h⟩ := andx_some h;dsimp only at h;refine TD2.heavy (fun v => sameC_refl v) rfl (by decide) rfl rfl (OpS.callV rfl rfl rfl rfl (orcN rfl) (RepF.conv (tf_r4_Of aD (Rdl.mono h_c_Book_Gatherings M2) (Rdl.mono (Rdl.gs (C := C) a12) M2) hr14))) ?_;rintro _ _ ⟨⟨w14, w14_2, w14_3, w14_4, w14_5⟩, rfl, rfl⟩;refine ⟨(all_cons (.inl (by kernel_rfl)) (all_cons (.inl (by kernel_rfl)) all_nil)), all_nil, ?_⟩;refine yG (_::_::_::_::_::_::_::C) rfl (yM R4 (Val.field (k := 0) rfl rfl rfl rfl rfl) (yM R4 (Val.assign rfl) (TD2.nil (zU rfl (zM R4 (zM R4 (zV R3 (Val.buildC (cs := [_, _]) (vs := [(_, _), (_, _)]) (ws := [(_, [_]), (_, [_])]) rfl rfl (CellsL.cons rfl (CellsL.cons rfl CellsL.nil)) rfl) (zJ 2 [_,_] R7 (fun b5=>TO.eff0 rfl rfl (Eff.store_row (p := 0) (cv := [_, _]) (cells' := [_, _]) rfl rfl rfl rfl rfl rfl rfl rfl aG (by decide) rfl) ?_)))))))));rintro _ rfl;refine zG (_::_::_::_::_::_::_::_::C) rfl (zN ?_)
 show T _ _ _ _ _ _;apply T.joinA (r := r) (W := Unit) (fun j w => ⟨[], [(2, .ptr b2 0 2), (5, .ptr b5 0 2)], .row b5 2 [iv (j.1), iv (j.2)] :: .row b2 2 [iv (0), iv (0)] :: .row b1 3 [iv (c_Book_Signed), v_c_Book_Gatherings, v_c_Items] :: C⟩) h
 ·intro j h;refine zU rfl (zA R4 (zN (zB ?_)))
  show T _ _ _ _ _ _;apply T.iter (r := j) (W := Unit) (fun j w => ⟨[], [(1, .ptr b1 0 3), (2, .ptr b2 0 2), (3, (GSo y8_2 (encSl encI) (List.map (GSo true encI) y8)).v), (5, .ptr b5 0 2), (6, iv (j.1))], .row b5 2 [iv (j.2.1), iv (j.2.2)] :: .row b2 2 [iv (0), iv (0)] :: .row b1 3 [iv (c_Book_Signed), v_c_Book_Gatherings, v_c_Items] :: C⟩) (w0 := ()) h
  ·exact (sb (pk [0,5,5,98,98,98,98,98] rfl))
  rintro ⟨i, s_Lo, s_Hi⟩ _ a h;unfold P_r4_Wide_L1 at h;dsimp only at h;dsimp only;refine zS (zU rfl (zM R4 (zM R4 (zV R3 (Val.len_gs rfl rfl) ?_))));obtain ⟨c22, hc22⟩ := zY (i < (((GSo y8_2 (encSl encI) (List.map (GSo true encI) y8)).l).length : Int));refine zV R3 (Val.lss hc22 rfl rfl) (zN ?_);obtain ⟨rfl, hc22, h⟩ | ⟨rfl, hc22, h⟩ := zI hc22 h
  ·refine zC rfl (zK (zS (zB (zS (T.drawE (l1 := [0, 1, 2, 3, 4, 5]) (l2 := [6, 7, 8]) (by kernel_rfl) (by kernel_rfl) (yL R4 (Val.faddr_ptr (fo := 0) rfl rfl rfl) (yR R4 (vW 2 [_,_] R5 R4) (yL R4 (Val.move rfl) (yL R4 (Val.move rfl) ?_)))))))));obtain ⟨a29, hia29, ea29, h⟩ := el_some h;refine TD1.fact (rdl_at (Rdl.gs (C := C) (GSo y8_2 (encSl encI) (List.map (GSo true encI) y8))) M3 hia29 ea29) (fun hp=>?_);obtain ⟨pa29, hpa29, hva29⟩ := hp;refine yL R4 (hva29 ⟨rfl, rfl⟩ rfl rfl) (yR R4 (Val.load_e hpa29 M3 ⟨_, rfl, rfl⟩ rfl rfl) (TD1.over (fun v => sameC_refl v) (all_cons (⟨_, rfl, (Val.load_e hpa29 M3 ⟨_, rfl, rfl⟩ rfl rfl)⟩) (all_cons (⟨_, rfl, (vW 2 [_,_] R5 R4)⟩) all_nil)) ?_));obtain ⟨⟨y31, y31_2, y31_3, y31_4, y31_5, y31_6, y31_7⟩, hr31, h⟩ := andx_some h;dsimp only at h;refine TD2.heavy (fun v => sameC_refl v) rfl (by decide) rfl rfl (OpS.callV rfl rfl rfl rfl (orcN rfl) (RepF.conv (tf_r4_Of aD (Rdl.mono h_c_Book_Gatherings M3) (Rdl.mono (Rdl.gs (C := C) a29) M3) hr31))) ?_;rintro _ _ ⟨⟨w31, w31_2, w31_3, w31_4, w31_5⟩, rfl, rfl⟩;refine ⟨(all_cons (.inl (by kernel_rfl)) (all_cons (.inl (by kernel_rfl)) all_nil)), all_nil, ?_⟩;refine yG (_::_::_::_::_::_::_::_::C) rfl (yM R4 (Val.field (k := 0) rfl rfl rfl rfl rfl) (yM R4 (Val.assign rfl) (TD2.nil (zT rfl (zF 0 R6 (zL 5 R3 R6 (zM R4 (zV R3 (Val.bmin rfl rfl) (zF 1 R6 (zL 5 R3 R6 (zM R4 (zV R3 (Val.bmax rfl rfl) (zV R3 (Val.buildC (cs := [_, _]) (vs := [(_, _), (_, _)]) (ws := [(_, [_]), (_, [_])]) rfl rfl (CellsL.cons rfl (CellsL.cons rfl CellsL.nil)) rfl) (TO.eff0 rfl rfl (Eff.store_row (p := 5) (cv := [_, _]) (cells' := [_, _]) rfl rfl rfl rfl rfl rfl rfl rfl aG (by decide) rfl) ?_))))))))))))));rintro _ rfl;refine zG (_::_::_::_::_::_::_::_::C) rfl (zN (zT rfl (zM R4 ?_)));obtain ⟨hk24, h⟩ := chk_some h;refine zV R3 (Val.add rfl rfl hk24) (zA R4 (zN ?_));cases h;exact ⟨rfl, (), (sb (pk [5,5,5,98,98,98,98,98] rfl))⟩
  refine zD rfl (zE ?_);cases h;exact ⟨ex_ne, ⟨rfl, (), (sb .refl)⟩⟩
 ·rintro ⟨s_Lo, s_Hi⟩ _ h;dsimp only at h;dsimp only;refine zU rfl (zV R3 (vW 0 [_,_] R5 R4) (TO.eff0 rfl rfl (Eff.store_row (p := 1) (cv := [_, _]) (cells' := [_, _]) rfl rfl rfl rfl rfl rfl rfl rfl aG (by decide) rfl) ?_));rintro _ rfl;refine zG (_::_::_::C) rfl (zN (zR ?_));cases h;exact ⟨rfl, _, rfl, [_], ⟨⟨_, rfl, LoadR.rows (p := 1) (c := [_, _]) rfl ⟨⟨_, rfl, rfl⟩, rfl, by decide⟩ rfl rfl rfl⟩, trivial⟩, ⟨(), rfl, (pk [98,98,98] rfl)⟩⟩
theorem w_r4_Wide (c_Book_Signed : Int) (c_Book_Gatherings : GS encG) (c_Items : GS encIt) (r : Int × Int) (h : P_r4_Wide c_Book_Signed c_Book_Gatherings.l c_Items.l = some r) : Comes (EL 3) 58 [.agg [iv (c_Book_Signed), c_Book_Gatherings.v, c_Items.v]] (.agg [iv r.1, iv r.2]) :=
 TF.run (tf_r4_Wide (Nat.le_refl _) (RdT.gs c_Book_Gatherings) (RdT.gs c_Items) h) fun w => (.agg (.cons .lit (.cons .lit .nil)))
set_option maxRecDepth 10000 in
theorem tf_r4_Range {k : Nat} (hk : 5 ≤ k) {C : List Thing} {c_Book_Signed : Int} {v_c_Book_Gatherings : AV} {c_Book_Gatherings : List Gat} {v_c_Items : AV} {c_Items : List Item} (ht_c_Book_Gatherings : RdT encG v_c_Book_Gatherings c_Book_Gatherings) (ht_c_Items : RdT encIt v_c_Items c_Items) {r : Int × Int × Int} (h : P_r4_Range c_Book_Signed c_Book_Gatherings c_Items = some r) :
  TF (EL k) 31 [.agg [iv (c_Book_Signed), v_c_Book_Gatherings, v_c_Items]] C (RepF (fun (w : Unit) => .tuple [.agg [iv r.1, iv r.2.1], iv r.2.2]) (fun (w : Unit) => C)) := by
 unfold P_r4_Range at h
 have h_c_Book_Gatherings : Rdl C encG v_c_Book_Gatherings c_Book_Gatherings := RdT.rdl ht_c_Book_Gatherings
 have h_c_Items : Rdl C encIt v_c_Items c_Items := RdT.rdl ht_c_Items;refine TF.enterG (fn := Go.Proofs.Tryz.f31) rfl rfl rfl rfl rfl (zU rfl (zQ 3 [_,_,_] R7 (fun b1=>zJ 2 [_,_] R7 (fun b2=>zA R4 (zN (zU rfl (zV R3 (vW 1 [_,_,_] R5 R4) ?_)))))));obtain ⟨⟨y9, y9_2, y9_3⟩, hr9, h⟩ := andx_some h;dsimp only at h;obtain ⟨g, hgg, hrg⟩ := Rdl.reif (hs := .row b2 2 [iv (0), iv (0)] :: .row b1 3 [iv (c_Book_Signed), v_c_Book_Gatherings, v_c_Items] :: C) h_c_Book_Gatherings M2 (ReifL.flat encG_tr);obtain ⟨g_2, hgg_2, hrg_2⟩ := Rdl.reif (hs := .row b2 2 [iv (0), iv (0)] :: .row b1 3 [iv (c_Book_Signed), v_c_Book_Gatherings, v_c_Items] :: C) h_c_Items M2 (ReifL.flat encIt_tr);refine TO.call rfl rfl rfl rfl rfl (orcL rfl aD) (.cons (.agg (.cons .lit (.cons (hrg _) (.cons (hrg_2 _) .nil)))) .nil) (sem_of (w_r4_Check c_Book_Signed g g_2 _ (by try rw [hgg]; try rw [hgg_2]; exact hr9))) (zM R4 (zX R5 (zX R5 (zX R5 (zA R4 (zA R4 (zA R4 (zN (zS (zU rfl (zM R4 ?_)))))))))));obtain ⟨c14, hc14⟩ := zY (¬ y9_3 = 0);refine zV R3 (Val.neq hc14 rfl rfl) (zN ?_);obtain ⟨rfl, hc14, h⟩ | ⟨rfl, hc14, h⟩ := zI hc14 h
 ·refine zC rfl (zU rfl (zV R3 (Val.buildC (cs := [_, _]) (vs := []) (ws := []) rfl rfl CellsL.nil rfl) (zM R4 (TO.eff0 rfl rfl (Eff.store_row (p := 0) (cv := [_, _]) (cells' := [_, _]) rfl rfl rfl rfl rfl rfl rfl rfl aG (by decide) rfl) ?_))));rintro _ rfl;refine zG (_::_::C) rfl (zA R4 (zN (zR ?_)));cases h;exact ⟨rfl, _, rfl, [_, _], ⟨⟨_, rfl, LoadR.rows (p := 0) (c := [_, _]) rfl ⟨⟨_, rfl, rfl⟩, rfl, by decide⟩ rfl rfl rfl⟩, ⟨rfl, trivial⟩⟩, ⟨(), rfl, (pk [98,98] rfl)⟩⟩
 refine zD rfl (zK (zU rfl (zV R3 (vW 1 [_,_,_] R5 R4) ?_)));obtain ⟨⟨y18, y18_2⟩, hr18, h⟩ := andx_some h;dsimp only at h;obtain ⟨g_3, hgg_3, hrg_3⟩ := Rdl.reif (hs := .row b2 2 [iv (0), iv (0)] :: .row b1 3 [iv (c_Book_Signed), v_c_Book_Gatherings, v_c_Items] :: C) h_c_Book_Gatherings M2 (ReifL.flat encG_tr);obtain ⟨g_4, hgg_4, hrg_4⟩ := Rdl.reif (hs := .row b2 2 [iv (0), iv (0)] :: .row b1 3 [iv (c_Book_Signed), v_c_Book_Gatherings, v_c_Items] :: C) h_c_Items M2 (ReifL.flat encIt_tr);refine TO.call rfl rfl rfl rfl rfl (orcL rfl aD) (.cons (.agg (.cons .lit (.cons (hrg_3 _) (.cons (hrg_4 _) .nil)))) .nil) (sem_of (w_r4_Wide c_Book_Signed g_3 g_4 _ (by try rw [hgg_3]; try rw [hgg_4]; exact hr18))) (TO.eff0 rfl rfl (Eff.store_row (p := 0) (cv := [_, _]) (cells' := [_, _]) rfl rfl rfl rfl rfl rfl rfl rfl aG (by decide) rfl) ?_);rintro _ rfl;refine zG (_::_::C) rfl (zA R4 (zN (zR ?_)));cases h;exact ⟨rfl, _, rfl, [_, _], ⟨⟨_, rfl, LoadR.rows (p := 0) (c := [_, _]) rfl ⟨⟨_, rfl, rfl⟩, rfl, by decide⟩ rfl rfl rfl⟩, ⟨rfl, trivial⟩⟩, ⟨(), rfl, (pk [98,98] rfl)⟩⟩
theorem w_r4_Range (c_Book_Signed : Int) (c_Book_Gatherings : GS encG) (c_Items : GS encIt) (r : Int × Int × Int) (h : P_r4_Range c_Book_Signed c_Book_Gatherings.l c_Items.l = some r) : Comes (EL 5) 31 [.agg [iv (c_Book_Signed), c_Book_Gatherings.v, c_Items.v]] (.tuple [.agg [iv r.1, iv r.2.1], iv r.2.2]) :=
 TF.run (tf_r4_Range (Nat.le_refl _) (RdT.gs c_Book_Gatherings) (RdT.gs c_Items) h) fun w => (.tuple (.cons (.agg (.cons .lit (.cons .lit .nil))) (.cons .lit .nil)))
set_option maxRecDepth 10000 in
theorem tf_r4_Faults {k : Nat} (hk : 5 ≤ k) {C : List Thing} {c_Book_Signed : Int} {v_c_Book_Gatherings : AV} {c_Book_Gatherings : List Gat} {v_c_Items : AV} {c_Items : List Item} (ht_c_Book_Gatherings : RdT encG v_c_Book_Gatherings c_Book_Gatherings) (ht_c_Items : RdT encIt v_c_Items c_Items) {r : (List Int) × Bool × (List Int) × Bool × Int × (List Int) × Bool × (List Int) × Bool × (List Int) × Bool × Int × Int} (h : P_r4_Faults c_Book_Signed c_Book_Gatherings c_Items = some r) :
  TF (EL k) 30 [.agg [iv (c_Book_Signed), v_c_Book_Gatherings, v_c_Items]] C (RepF (fun (w : AV × AV × AV × AV × AV) => .tuple [.agg [w.1, w.2.1, iv r.2.2.2.2.1, w.2.2.1, w.2.2.2.1, w.2.2.2.2, iv r.2.2.2.2.2.2.2.2.2.2.2.1], iv r.2.2.2.2.2.2.2.2.2.2.2.2]) (fun (w : AV × AV × AV × AV × AV) => ownL r.2.1 w.1 encI r.1 :: ownL r.2.2.2.1 w.2.1 encI r.2.2.1 :: ownL r.2.2.2.2.2.2.1 w.2.2.1 encI r.2.2.2.2.2.1 :: ownL r.2.2.2.2.2.2.2.2.1 w.2.2.2.1 encI r.2.2.2.2.2.2.2.1 :: ownL r.2.2.2.2.2.2.2.2.2.2.1 w.2.2.2.2 encI r.2.2.2.2.2.2.2.2.2.1 :: C)) := by
 unfold P_r4_Faults at h
 have h_c_Book_Gatherings : Rdl C encG v_c_Book_Gatherings c_Book_Gatherings := RdT.rdl ht_c_Book_Gatherings
 have h_c_Items : Rdl C encIt v_c_Items c_Items := RdT.rdl ht_c_Items;refine TF.enterG (fn := Go.Proofs.Tryz.f30) rfl rfl rfl rfl rfl (zU rfl (zQ 3 [_,_,_] R7 (fun b1=>zJ 7 [_,_,_,_,_,_,_] R7 (fun b2=>zA R4 (zN (zU rfl (zV R3 (vW 1 [_,_,_] R5 R4) ?_)))))));obtain ⟨⟨y13, y13_2, y13_3⟩, hr13, h⟩ := andx_some h;dsimp only at h;obtain ⟨g, hgg, hrg⟩ := Rdl.reif (hs := .row b2 7 [nilS, nilS, iv (0), nilS, nilS, nilS, iv (0)] :: .row b1 3 [iv (c_Book_Signed), v_c_Book_Gatherings, v_c_Items] :: C) h_c_Book_Gatherings M2 (ReifL.flat encG_tr);obtain ⟨g_2, hgg_2, hrg_2⟩ := Rdl.reif (hs := .row b2 7 [nilS, nilS, iv (0), nilS, nilS, nilS, iv (0)] :: .row b1 3 [iv (c_Book_Signed), v_c_Book_Gatherings, v_c_Items] :: C) h_c_Items M2 (ReifL.flat encIt_tr);refine TO.call rfl rfl rfl rfl rfl (orcL rfl aD) (.cons (.agg (.cons .lit (.cons (hrg _) (.cons (hrg_2 _) .nil)))) .nil) (sem_of (w_r4_Check c_Book_Signed g g_2 _ (by try rw [hgg]; try rw [hgg_2]; exact hr13))) (zM R4 (zX R5 (zX R5 (zX R5 (zA R4 (zA R4 (zA R4 (zN (zS (zU rfl (zM R4 ?_)))))))))));obtain ⟨c18, hc18⟩ := zY (¬ y13_3 = 0);refine zV R3 (Val.neq hc18 rfl rfl) (zN ?_);obtain ⟨rfl, hc18, h⟩ | ⟨rfl, hc18, h⟩ := zI hc18 h
 ·refine zC rfl (zU rfl (zV R3 (Val.buildC (cs := [_, _, _, _, _, _, _]) (vs := []) (ws := []) rfl rfl CellsL.nil rfl) (zM R4 (TO.eff0 rfl rfl (Eff.store_row (p := 0) (cv := [_, _, _, _, _, _, _]) (cells' := [_, _, _, _, _, _, _]) rfl rfl rfl rfl rfl rfl rfl rfl aG (by decide) rfl) ?_))));rintro _ rfl;refine zG (_::_::C) rfl (zA R4 (zN (T.nilown (u := encI.u) (T.nilown (u := encI.u) (T.nilown (u := encI.u) (T.nilown (u := encI.u) (T.nilown (u := encI.u) (zR ?_))))))));cases h;exact ⟨rfl, _, rfl, [_, _], ⟨⟨_, rfl, LoadR.rows (p := 5) (c := [_, _, _, _, _, _, _]) rfl ⟨⟨_, rfl, rfl⟩, rfl, by decide⟩ rfl rfl rfl⟩, ⟨rfl, trivial⟩⟩, ⟨(nilS, nilS, nilS, nilS, nilS), rfl, (pk [4,3,2,1,0,98,98] rfl)⟩⟩
 refine zD rfl (zK (zU rfl (zV R3 (vW 1 [_,_,_] R5 R4) ?_)));obtain ⟨⟨y22, y22_2⟩, hr22, h⟩ := andx_some h;dsimp only at h;obtain ⟨g_3, hgg_3, hrg_3⟩ := Rdl.reif (hs := .row b2 7 [nilS, nilS, iv (0), nilS, nilS, nilS, iv (0)] :: .row b1 3 [iv (c_Book_Signed), v_c_Book_Gatherings, v_c_Items] :: C) h_c_Book_Gatherings M2 (ReifL.flat encG_tr);obtain ⟨g_4, hgg_4, hrg_4⟩ := Rdl.reif (hs := .row b2 7 [nilS, nilS, iv (0), nilS, nilS, nilS, iv (0)] :: .row b1 3 [iv (c_Book_Signed), v_c_Book_Gatherings, v_c_Items] :: C) h_c_Items M2 (ReifL.flat encIt_tr);refine TO.call rfl rfl rfl rfl rfl (orcL rfl aD) (.cons (.agg (.cons .lit (.cons (hrg_3 _) (.cons (hrg_4 _) .nil)))) .nil) (sem_of (w_r4_All c_Book_Signed g_3 g_4 _ (by try rw [hgg_3]; try rw [hgg_4]; exact hr22))) (zA R4 (zN (zS (T.drawE (l1 := [0, 1, 2, 3, 4, 6]) (l2 := [5, 7]) (by kernel_rfl) (by kernel_rfl) (yL R4 (Val.faddr_ptr (fo := 0) rfl rfl rfl) (yR R4 (vW 1 [_,_] R5 R4) (yL R4 (Val.move rfl) ?_)))))));obtain ⟨a26, hia26, ea26, h⟩ := el_some h;refine TD1.fact (rdl_at (Rdl.gs (C := C) (GSo y22_2 (encSl encI) (List.map (GSo true encI) y22))) M2 hia26 ea26) (fun hp=>?_);obtain ⟨pa26, hpa26, hva26⟩ := hp;refine yL R4 (hva26 ⟨rfl, rfl⟩ rfl rfl) (yR R4 (Val.load_e hpa26 M2 ⟨_, rfl, rfl⟩ rfl rfl) (TD1.floatN rfl rfl rfl rfl (New.alloc (k := 7) (cells := [_, _, _, _, _, _, _]) rfl rfl rfl rfl) (fun b8=>TD1.over (fun v => sameC_refl v) (all_cons (⟨_, rfl, (Val.load_e hpa26 M3 ⟨_, rfl, rfl⟩ rfl rfl)⟩) (all_cons (⟨_, rfl, (vW 2 [_,_] R5 R4)⟩) all_nil)) ?_)));obtain ⟨⟨y28, y28_2, y28_3, y28_4, y28_5, y28_6, y28_7⟩, hr28, h⟩ := andx_some h;dsimp only at h;refine TD2.heavy (fun v => sameC_refl v) rfl (by decide) rfl rfl (OpS.callV rfl rfl rfl rfl (orcN rfl) (RepF.conv (tf_r4_Of aD (Rdl.mono h_c_Book_Gatherings M3) (Rdl.mono (Rdl.gs (C := C) a26) M3) hr28))) ?_;rintro _ _ ⟨⟨w28, w28_2, w28_3, w28_4, w28_5⟩, rfl, rfl⟩;refine ⟨(all_cons (.inl (by kernel_rfl)) (all_cons (.inl (by kernel_rfl)) all_nil)), (all_cons (.inr (by repeat first | exact List.mem_cons_self | apply List.mem_cons_of_mem)) all_nil), ?_⟩;refine yG (_::_::_::_::_::_::_::_::C) rfl (TD2.less (Less.floatRow (p := 5) rfl) (yG (_::_::_::_::_::_::_::_::C) rfl (TD2.fact (own_cellS (p := 0) rfl) (fun hot9=>TD2.fact (own_cellS (p := 1) rfl) (fun hot10=>TD2.fact (own_cellS (p := 2) rfl) (fun hot11=>TD2.fact (own_cellS (p := 3) rfl) (fun hot12=>TD2.fact (own_cellS (p := 4) rfl) (fun hot13=>TD2.heavy (fun v => sameC_refl v) rfl (by decide) rfl rfl (OpS.eff (Eff.store_row (p := 5) (cv := [_, _, _, _, _, _, _]) (cells' := [_, _, _, _, _, _, _]) rfl rfl rfl rfl rfl rfl rfl rfl (by first | rfl | (simp [GS.one, hot9.2, hot10.2, hot11.2, hot12.2, hot13.2]; done) | (simp [GS.one, hot9.2, hot10.2, hot11.2, hot12.2, hot13.2]; (repeat' apply And.intro) <;> rfl)) (by decide) rfl)) ?_))))))));rintro _ _ rfl;refine ⟨(all_cons (.inl (by kernel_rfl)) (all_cons (.inl (by kernel_rfl)) all_nil)), (all_cons (.inl (by kernel_rfl)) all_nil), ?_⟩;refine yG (_::_::_::_::_::_::_::_::C) rfl (TD2.nil ?_)
 show T _ _ _ _ _ _;apply T.joinA (r := r) (W := AV × AV × AV × AV × AV) (fun j w => ⟨[], [(2, .ptr b2 0 7), (8, .ptr b8 0 7)], ownL false w.1 encI j.1 :: ownL true w.2.1 encI j.2.1 :: ownL true w.2.2.1 encI j.2.2.1 :: ownL true w.2.2.2.1 encI j.2.2.2.1 :: ownL true w.2.2.2.2 encI j.2.2.2.2.1 :: .row b8 7 [w.1, w.2.1, iv (j.2.2.2.2.2.1), w.2.2.1, w.2.2.2.1, w.2.2.2.2, iv (j.2.2.2.2.2.2)] :: .row b2 7 [nilS, nilS, iv (0), nilS, nilS, nilS, iv (0)] :: .row b1 3 [iv (c_Book_Signed), v_c_Book_Gatherings, v_c_Items] :: C⟩) h
 ·intro j h;refine zU rfl (zA R4 (zN (zB ?_)))
  show T _ _ _ _ _ _;apply T.iter (r := j) (W := AV × AV × AV × AV × AV) (fun j w => ⟨[], [(1, .ptr b1 0 3), (2, .ptr b2 0 7), (7, (GSo y22_2 (encSl encI) (List.map (GSo true encI) y22)).v), (8, .ptr b8 0 7), (9, iv (j.1))], ownL false w.1 encI j.2.1 :: ownL true w.2.1 encI j.2.2.1 :: ownL true w.2.2.1 encI j.2.2.2.1 :: ownL true w.2.2.2.1 encI j.2.2.2.2.1 :: ownL true w.2.2.2.2 encI j.2.2.2.2.2.1 :: .row b8 7 [w.1, w.2.1, iv (j.2.2.2.2.2.2.1), w.2.2.1, w.2.2.2.1, w.2.2.2.2, iv (j.2.2.2.2.2.2.2)] :: .row b2 7 [nilS, nilS, iv (0), nilS, nilS, nilS, iv (0)] :: .row b1 3 [iv (c_Book_Signed), v_c_Book_Gatherings, v_c_Items] :: C⟩) (w0 := (w28, w28_2, w28_3, w28_4, w28_5)) h
  ·exact (sb .refl)
  rintro ⟨i, best_Leaves, best_Leaves_2, best_Leaves_3, best_Leaves_4, best_Leaves_5, best_Pieces, best_All⟩ ⟨v9, v10, v11, v12, v13⟩ a h;unfold P_r4_Faults_L1 at h;dsimp only at h;dsimp only;refine zS (zU rfl (zM R4 (zM R4 (zV R3 (Val.len_gs rfl rfl) ?_))));obtain ⟨c32, hc32⟩ := zY (i < (((GSo y22_2 (encSl encI) (List.map (GSo true encI) y22)).l).length : Int));refine zV R3 (Val.lss hc32 rfl rfl) (zN ?_);obtain ⟨rfl, hc32, h⟩ | ⟨rfl, hc32, h⟩ := zI hc32 h
  ·refine zC rfl (zK ?_)
   show T _ _ _ _ _ _;apply T.joinA (r := a) (W := AV × AV × AV × AV × AV) (fun j w => ⟨[], [(1, .ptr b1 0 3), (2, .ptr b2 0 7), (7, (GSo y22_2 (encSl encI) (List.map (GSo true encI) y22)).v), (8, .ptr b8 0 7), (9, iv (i))], ownL false w.1 encI j.1 :: ownL true w.2.1 encI j.2.1 :: ownL true w.2.2.1 encI j.2.2.1 :: ownL true w.2.2.2.1 encI j.2.2.2.1 :: ownL true w.2.2.2.2 encI j.2.2.2.2.1 :: .row b8 7 [w.1, w.2.1, iv (j.2.2.2.2.2.1), w.2.2.1, w.2.2.2.1, w.2.2.2.2, iv (j.2.2.2.2.2.2)] :: .row b2 7 [nilS, nilS, iv (0), nilS, nilS, nilS, iv (0)] :: .row b1 3 [iv (c_Book_Signed), v_c_Book_Gatherings, v_c_Items] :: C⟩) h
   ·intro j h;refine zB (zS (T.drawE (l1 := [0, 1, 2, 3, 4, 5, 7]) (l2 := [6, 8]) (by kernel_rfl) (by kernel_rfl) (yL R4 (Val.faddr_ptr (fo := 0) rfl rfl rfl) (yR R4 (vW 7 [_,_] R5 R4) (yL R4 (Val.move rfl) (yL R4 (Val.move rfl) ?_))))));obtain ⟨a39, hia39, ea39, h⟩ := el_some h;refine TD1.fact (rdl_at (Rdl.gs (C := C) (GSo y22_2 (encSl encI) (List.map (GSo true encI) y22))) M8 hia39 ea39) (fun hp=>?_);obtain ⟨pa39, hpa39, hva39⟩ := hp;refine yL R4 (hva39 ⟨rfl, rfl⟩ rfl rfl) (yR R4 (Val.load_e hpa39 M8 ⟨_, rfl, rfl⟩ rfl rfl) (TD1.floatN rfl rfl rfl rfl (New.alloc (k := 7) (cells := [_, _, _, _, _, _, _]) rfl rfl rfl rfl) (fun b10=>TD1.over (fun v => sameC_refl v) (all_cons (⟨_, rfl, (Val.load_e hpa39 (memS M8) ⟨_, rfl, rfl⟩ rfl rfl)⟩) (all_cons (⟨_, rfl, (vW 8 [_,_] R5 R4)⟩) all_nil)) ?_)));obtain ⟨⟨y41, y41_2, y41_3, y41_4, y41_5, y41_6, y41_7⟩, hr41, h⟩ := andx_some h;dsimp only at h;refine TD2.heavy (fun v => sameC_refl v) rfl (by decide) rfl rfl (OpS.callV rfl rfl rfl rfl (orcN rfl) (RepF.conv (tf_r4_Of aD (Rdl.mono h_c_Book_Gatherings (memS M8)) (Rdl.mono (Rdl.gs (C := C) a39) (memS M8)) hr41))) ?_;rintro _ _ ⟨⟨w41, w41_2, w41_3, w41_4, w41_5⟩, rfl, rfl⟩;refine ⟨(all_cons (.inl (by kernel_rfl)) (all_cons (.inl (by kernel_rfl)) all_nil)), (all_cons (.inr (by repeat first | exact List.mem_cons_self | apply List.mem_cons_of_mem)) all_nil), ?_⟩;refine yG (_::_::_::_::_::_::_::_::_::_::_::_::_::_::C) rfl (TD2.less (Less.floatRow (p := 5) rfl) (yG (_::_::_::_::_::_::_::_::_::_::_::_::_::_::C) rfl (TD2.fact (own_cellS (p := 0) rfl) (fun hot15=>TD2.fact (own_cellS (p := 1) rfl) (fun hot16=>TD2.fact (own_cellS (p := 2) rfl) (fun hot17=>TD2.fact (own_cellS (p := 3) rfl) (fun hot18=>TD2.fact (own_cellS (p := 4) rfl) (fun hot19=>TD2.heavy (fun v => sameC_refl v) rfl (by decide) rfl rfl (OpS.eff (Eff.store_row (p := 5) (cv := [_, _, _, _, _, _, _]) (cells' := [_, _, _, _, _, _, _]) rfl rfl rfl rfl rfl rfl rfl rfl (by first | rfl | (simp [GS.one, hot15.2, hot16.2, hot17.2, hot18.2, hot19.2]; done) | (simp [GS.one, hot15.2, hot16.2, hot17.2, hot18.2, hot19.2]; (repeat' apply And.intro) <;> rfl)) (by decide) rfl)) ?_))))))));rintro _ _ rfl;refine ⟨(all_cons (.inl (by kernel_rfl)) (all_cons (.inl (by kernel_rfl)) all_nil)), (all_cons (.inl (by kernel_rfl)) all_nil), ?_⟩;refine yG (_::_::_::_::_::_::_::_::_::_::_::_::_::_::C) rfl (TD2.nil (zU rfl (zF 6 R6 (zL 5 R3 R6 (zF 6 R6 (zL 11 R3 R6 ?_))))));obtain ⟨c46, hc46⟩ := zY (y41_7 < best_All);refine zV R3 (Val.lss hc46 rfl rfl) (zN ?_);obtain ⟨rfl, hc46, h⟩ | ⟨rfl, hc46, h⟩ := zI hc46 h
    ·refine zC rfl (zT rfl (zV R3 (vW 5 [_,_,_,_,_,_,_] R5 R4) (TO.fact (own_cellS (p := 0) rfl) (fun hot15=>TO.fact (own_cellS (p := 1) rfl) (fun hot16=>TO.fact (own_cellS (p := 2) rfl) (fun hot17=>TO.fact (own_cellS (p := 3) rfl) (fun hot18=>TO.fact (own_cellS (p := 4) rfl) (fun hot19=>TO.eff0 rfl rfl (Eff.store_row (p := 11) (cv := [_, _, _, _, _, _, _]) (cells' := [_, _, _, _, _, _, _]) rfl rfl rfl rfl rfl rfl rfl rfl (by first | rfl | (simp [GS.one, hot15.2, hot16.2, hot17.2, hot18.2, hot19.2]; done) | (simp [GS.one, hot15.2, hot16.2, hot17.2, hot18.2, hot19.2]; (repeat' apply And.intro) <;> rfl)) (by decide) rfl) ?_))))))));rintro _ rfl;refine zG (_::_::_::_::_::_::_::_::_::_::_::_::_::_::C) rfl (zN ?_);cases h;exact ⟨rfl, (w41, w41_2, w41_3, w41_4, w41_5), (sb (pk [0,0,0,0,0,6,6,6,98,98,98,98,98,98] rfl))⟩
    refine zD rfl (zK ?_);cases h;exact ⟨rfl, (v9, v10, v11, v12, v13), (sb (pk [6,6,6,6,6,6,6,6,98,98,98,98,98,98] rfl))⟩
   ·rintro ⟨best_Leaves_6, best_Leaves_7, best_Leaves_8, best_Leaves_9, best_Leaves_10, best_Pieces_2, best_All_2⟩ ⟨v15, v16, v17, v18, v19⟩ h;dsimp only at h;dsimp only;refine zT rfl (zM R4 ?_);obtain ⟨hk34, h⟩ := chk_some h;refine zV R3 (Val.add rfl rfl hk34) (zA R4 (zN ?_));cases h;exact ⟨rfl, (v15, v16, v17, v18, v19), (sb .refl)⟩
  refine zD rfl (zE ?_);cases h;exact ⟨ex_ne, ⟨rfl, (v9, v10, v11, v12, v13), (sb .refl)⟩⟩
 ·rintro ⟨best_Leaves, best_Leaves_2, best_Leaves_3, best_Leaves_4, best_Leaves_5, best_Pieces, best_All⟩ ⟨v9, v10, v11, v12, v13⟩ h;dsimp only at h;dsimp only;refine zU rfl (zV R3 (vW 5 [_,_,_,_,_,_,_] R5 R4) (TO.fact (own_cellS (p := 0) rfl) (fun hot9=>TO.fact (own_cellS (p := 1) rfl) (fun hot10=>TO.fact (own_cellS (p := 2) rfl) (fun hot11=>TO.fact (own_cellS (p := 3) rfl) (fun hot12=>TO.fact (own_cellS (p := 4) rfl) (fun hot13=>TO.eff0 rfl rfl (Eff.store_row (p := 6) (cv := [_, _, _, _, _, _, _]) (cells' := [_, _, _, _, _, _, _]) rfl rfl rfl rfl rfl rfl rfl rfl (by first | rfl | (simp [GS.one, hot9.2, hot10.2, hot11.2, hot12.2, hot13.2]; done) | (simp [GS.one, hot9.2, hot10.2, hot11.2, hot12.2, hot13.2]; (repeat' apply And.intro) <;> rfl)) (by decide) rfl) ?_)))))));rintro _ rfl;refine zG (_::_::_::_::_::_::_::_::C) rfl (zA R4 (zN (zR ?_)));cases h;exact ⟨rfl, _, rfl, [_, _], ⟨⟨_, rfl, LoadR.rows (p := 6) (c := [_, _, _, _, _, _, _]) rfl ⟨⟨_, rfl, rfl⟩, rfl, by decide⟩ rfl rfl rfl⟩, ⟨rfl, trivial⟩⟩, ⟨(v9, v10, v11, v12, v13), rfl, (pk [0,0,0,0,0,98,98,98] rfl)⟩⟩
theorem w_r4_Faults (c_Book_Signed : Int) (c_Book_Gatherings : GS encG) (c_Items : GS encIt) (r : (List Int) × Bool × (List Int) × Bool × Int × (List Int) × Bool × (List Int) × Bool × (List Int) × Bool × Int × Int) (h : P_r4_Faults c_Book_Signed c_Book_Gatherings.l c_Items.l = some r) : Comes (EL 5) 30 [.agg [iv (c_Book_Signed), c_Book_Gatherings.v, c_Items.v]] (.tuple [.agg [(GSo r.2.1 encI r.1).v, (GSo r.2.2.2.1 encI r.2.2.1).v, iv r.2.2.2.2.1, (GSo r.2.2.2.2.2.2.1 encI r.2.2.2.2.2.1).v, (GSo r.2.2.2.2.2.2.2.2.1 encI r.2.2.2.2.2.2.2.1).v, (GSo r.2.2.2.2.2.2.2.2.2.2.1 encI r.2.2.2.2.2.2.2.2.2.1).v, iv r.2.2.2.2.2.2.2.2.2.2.2.1], iv r.2.2.2.2.2.2.2.2.2.2.2.2]) :=
 TF.run (tf_r4_Faults (Nat.le_refl _) (RdT.gs c_Book_Gatherings) (RdT.gs c_Items) h) fun w => (.tuple (.cons (.agg (.cons (.ownL (en := encI) (p := 0) rfl (.lits encI_lits)) (.cons (.ownL (en := encI) (p := 1) rfl (.lits encI_lits)) (.cons .lit (.cons (.ownL (en := encI) (p := 2) rfl (.lits encI_lits)) (.cons (.ownL (en := encI) (p := 3) rfl (.lits encI_lits)) (.cons (.ownL (en := encI) (p := 4) rfl (.lits encI_lits)) (.cons .lit .nil)))))))) (.cons .lit .nil)))
set_option maxRecDepth 10000 in
theorem tf_r4_Same {k : Nat} (hk : 1 ≤ k) {C : List Thing} {v_a_Leaves : AV} {a_Leaves : List Int} {v_a_Lost : AV} {a_Lost : List Int} {a_Pieces : Int} {v_a_Strange : AV} {a_Strange : List Int} {v_a_Twice : AV} {a_Twice : List Int} {v_a_Moved : AV} {a_Moved : List Int} {a_All : Int} {v_b_Leaves : AV} {b_Leaves : List Int} {v_b_Lost : AV} {b_Lost : List Int} {b_Pieces : Int} {v_b_Strange : AV} {b_Strange : List Int} {v_b_Twice : AV} {b_Twice : List Int} {v_b_Moved : AV} {b_Moved : List Int} {b_All : Int} (h_a_Leaves : Rdl C encI v_a_Leaves a_Leaves) (h_a_Lost : Rdl C encI v_a_Lost a_Lost) (h_a_Strange : Rdl C encI v_a_Strange a_Strange) (h_a_Twice : Rdl C encI v_a_Twice a_Twice) (h_a_Moved : Rdl C encI v_a_Moved a_Moved) (h_b_Leaves : Rdl C encI v_b_Leaves b_Leaves) (h_b_Lost : Rdl C encI v_b_Lost b_Lost) (h_b_Strange : Rdl C encI v_b_Strange b_Strange) (h_b_Twice : Rdl C encI v_b_Twice b_Twice) (h_b_Moved : Rdl C encI v_b_Moved b_Moved) {r : Bool} (h : P_r4_Same a_Leaves a_Lost a_Pieces a_Strange a_Twice a_Moved a_All b_Leaves b_Lost b_Pieces b_Strange b_Twice b_Moved b_All = some r) :
  TF (EL k) 24 [.agg [v_a_Leaves, v_a_Lost, iv (a_Pieces), v_a_Strange, v_a_Twice, v_a_Moved, iv (a_All)], .agg [v_b_Leaves, v_b_Lost, iv (b_Pieces), v_b_Strange, v_b_Twice, v_b_Moved, iv (b_All)]] C (RepF (fun (w : Unit) => bv r) (fun (w : Unit) => C)) := by
 unfold P_r4_Same at h;refine TF.enter (fn := Go.Proofs.Tryz.f24) rfl rfl rfl rfl rfl (zU rfl (zQ 7 [_,_,_,_,_,_,_] R7 (fun b2=>zQ 7 [_,_,_,_,_,_,_] R7 (fun b3=>zA R4 (zN ?_)))))
 show T _ _ _ _ _ _;apply T.joinA (r := r) (W := Unit) (fun j w => ⟨[], [(4, bv j)], .row b3 7 [v_b_Leaves, v_b_Lost, iv (b_Pieces), v_b_Strange, v_b_Twice, v_b_Moved, iv (b_All)] :: .row b2 7 [v_a_Leaves, v_a_Lost, iv (a_Pieces), v_a_Strange, v_a_Twice, v_a_Moved, iv (a_All)] :: C⟩) h
 ·intro j h;refine zT rfl (zF 0 R6 (zL 1 R3 R6 (zF 0 R6 (zL 0 R3 R6 ?_))));obtain ⟨same9, hr9, h⟩ := andx_some h;obtain ⟨g, hgg, hrg⟩ := Rdl.reif (hs := .row b3 7 [v_b_Leaves, v_b_Lost, iv (b_Pieces), v_b_Strange, v_b_Twice, v_b_Moved, iv (b_All)] :: .row b2 7 [v_a_Leaves, v_a_Lost, iv (a_Pieces), v_a_Strange, v_a_Twice, v_a_Moved, iv (a_All)] :: C) h_a_Leaves M2 (ReifL.flat encI_tr);obtain ⟨g_2, hgg_2, hrg_2⟩ := Rdl.reif (hs := .row b3 7 [v_b_Leaves, v_b_Lost, iv (b_Pieces), v_b_Strange, v_b_Twice, v_b_Moved, iv (b_All)] :: .row b2 7 [v_a_Leaves, v_a_Lost, iv (a_Pieces), v_a_Strange, v_a_Twice, v_a_Moved, iv (a_All)] :: C) h_b_Leaves M2 (ReifL.flat encI_tr);refine TO.call rfl rfl rfl rfl rfl (orcL rfl aD) (.cons (hrg _) (.cons (hrg_2 _) .nil)) (sem_of (w_r1_Ints g g_2 _ (by try rw [hgg]; try rw [hgg_2]; exact hr9))) (zM R4 ?_);obtain ⟨rfl, h⟩ | ⟨rfl, h⟩ := zZ h
  ·refine zF 1 R6 (zL 1 R3 R6 (zF 1 R6 (zL 0 R3 R6 ?_)));obtain ⟨same15, hr15, h⟩ := andx_some h;obtain ⟨g_3, hgg_3, hrg_3⟩ := Rdl.reif (hs := .row b3 7 [v_b_Leaves, v_b_Lost, iv (b_Pieces), v_b_Strange, v_b_Twice, v_b_Moved, iv (b_All)] :: .row b2 7 [v_a_Leaves, v_a_Lost, iv (a_Pieces), v_a_Strange, v_a_Twice, v_a_Moved, iv (a_All)] :: C) h_a_Lost M2 (ReifL.flat encI_tr);obtain ⟨g_4, hgg_4, hrg_4⟩ := Rdl.reif (hs := .row b3 7 [v_b_Leaves, v_b_Lost, iv (b_Pieces), v_b_Strange, v_b_Twice, v_b_Moved, iv (b_All)] :: .row b2 7 [v_a_Leaves, v_a_Lost, iv (a_Pieces), v_a_Strange, v_a_Twice, v_a_Moved, iv (a_All)] :: C) h_b_Lost M2 (ReifL.flat encI_tr);refine TO.call rfl rfl rfl rfl rfl (orcL rfl aD) (.cons (hrg_3 _) (.cons (hrg_4 _) .nil)) (sem_of (w_r1_Ints g_3 g_4 _ (by try rw [hgg_3]; try rw [hgg_4]; exact hr15))) (zP R6 (zM R4 ?_));obtain ⟨rfl, h⟩ | ⟨rfl, h⟩ := zZ h
   ·refine zF 2 R6 (zL 1 R3 R6 (zF 2 R6 (zL 0 R3 R6 ?_)));obtain ⟨c22, hc22⟩ := zY (a_Pieces = b_Pieces);refine zV R3 (Val.eql hc22 rfl rfl) (zP R6 (zM R4 ?_));obtain ⟨rfl, hc22, h⟩ | ⟨rfl, hc22, h⟩ := zI hc22 h
    ·refine zF 3 R6 (zL 1 R3 R6 (zF 3 R6 (zL 0 R3 R6 ?_)));obtain ⟨same29, hr29, h⟩ := andx_some h;obtain ⟨g_5, hgg_5, hrg_5⟩ := Rdl.reif (hs := .row b3 7 [v_b_Leaves, v_b_Lost, iv (b_Pieces), v_b_Strange, v_b_Twice, v_b_Moved, iv (b_All)] :: .row b2 7 [v_a_Leaves, v_a_Lost, iv (a_Pieces), v_a_Strange, v_a_Twice, v_a_Moved, iv (a_All)] :: C) h_a_Strange M2 (ReifL.flat encI_tr);obtain ⟨g_6, hgg_6, hrg_6⟩ := Rdl.reif (hs := .row b3 7 [v_b_Leaves, v_b_Lost, iv (b_Pieces), v_b_Strange, v_b_Twice, v_b_Moved, iv (b_All)] :: .row b2 7 [v_a_Leaves, v_a_Lost, iv (a_Pieces), v_a_Strange, v_a_Twice, v_a_Moved, iv (a_All)] :: C) h_b_Strange M2 (ReifL.flat encI_tr);refine TO.call rfl rfl rfl rfl rfl (orcL rfl aD) (.cons (hrg_5 _) (.cons (hrg_6 _) .nil)) (sem_of (w_r1_Ints g_5 g_6 _ (by try rw [hgg_5]; try rw [hgg_6]; exact hr29))) (zP R6 (zM R4 ?_));obtain ⟨rfl, h⟩ | ⟨rfl, h⟩ := zZ h
     ·refine zF 4 R6 (zL 1 R3 R6 (zF 4 R6 (zL 0 R3 R6 ?_)));obtain ⟨same36, hr36, h⟩ := andx_some h;obtain ⟨g_7, hgg_7, hrg_7⟩ := Rdl.reif (hs := .row b3 7 [v_b_Leaves, v_b_Lost, iv (b_Pieces), v_b_Strange, v_b_Twice, v_b_Moved, iv (b_All)] :: .row b2 7 [v_a_Leaves, v_a_Lost, iv (a_Pieces), v_a_Strange, v_a_Twice, v_a_Moved, iv (a_All)] :: C) h_a_Twice M2 (ReifL.flat encI_tr);obtain ⟨g_8, hgg_8, hrg_8⟩ := Rdl.reif (hs := .row b3 7 [v_b_Leaves, v_b_Lost, iv (b_Pieces), v_b_Strange, v_b_Twice, v_b_Moved, iv (b_All)] :: .row b2 7 [v_a_Leaves, v_a_Lost, iv (a_Pieces), v_a_Strange, v_a_Twice, v_a_Moved, iv (a_All)] :: C) h_b_Twice M2 (ReifL.flat encI_tr);refine TO.call rfl rfl rfl rfl rfl (orcL rfl aD) (.cons (hrg_7 _) (.cons (hrg_8 _) .nil)) (sem_of (w_r1_Ints g_7 g_8 _ (by try rw [hgg_7]; try rw [hgg_8]; exact hr36))) (zP R6 (zM R4 ?_));obtain ⟨rfl, h⟩ | ⟨rfl, h⟩ := zZ h
      ·refine zF 5 R6 (zL 1 R3 R6 (zF 5 R6 (zL 0 R3 R6 ?_)));obtain ⟨same43, hr43, h⟩ := andx_some h;obtain ⟨g_9, hgg_9, hrg_9⟩ := Rdl.reif (hs := .row b3 7 [v_b_Leaves, v_b_Lost, iv (b_Pieces), v_b_Strange, v_b_Twice, v_b_Moved, iv (b_All)] :: .row b2 7 [v_a_Leaves, v_a_Lost, iv (a_Pieces), v_a_Strange, v_a_Twice, v_a_Moved, iv (a_All)] :: C) h_a_Moved M2 (ReifL.flat encI_tr);obtain ⟨g_10, hgg_10, hrg_10⟩ := Rdl.reif (hs := .row b3 7 [v_b_Leaves, v_b_Lost, iv (b_Pieces), v_b_Strange, v_b_Twice, v_b_Moved, iv (b_All)] :: .row b2 7 [v_a_Leaves, v_a_Lost, iv (a_Pieces), v_a_Strange, v_a_Twice, v_a_Moved, iv (a_All)] :: C) h_b_Moved M2 (ReifL.flat encI_tr);refine TO.call rfl rfl rfl rfl rfl (orcL rfl aD) (.cons (hrg_9 _) (.cons (hrg_10 _) .nil)) (sem_of (w_r1_Ints g_9 g_10 _ (by try rw [hgg_9]; try rw [hgg_10]; exact hr43))) (zP R6 (zM R4 ?_));obtain ⟨rfl, h⟩ | ⟨rfl, h⟩ := zZ h
       ·refine zF 6 R6 (zL 1 R3 R6 (zF 6 R6 (zL 0 R3 R6 ?_)));obtain ⟨c50, hc50⟩ := zY (a_All = b_All);refine zV R3 (Val.eql hc50 rfl rfl) (zP R6 (zA R4 (zN ?_)));subst hc50;cases h;exact ⟨rfl, (), (sb .refl)⟩
       refine zO R3 (zO R3 (zO R3 (zO R3 (zO R3 (zP R6 (zA R4 (zN ?_)))))));cases h;exact ⟨rfl, (), (sb .refl)⟩
      refine zO R3 (zO R3 (zO R3 (zO R3 (zO R3 (zP R6 (zM R4 (zO R3 (zO R3 (zO R3 (zO R3 (zO R3 (zP R6 (zA R4 (zN ?_))))))))))))));cases h;exact ⟨rfl, (), (sb .refl)⟩
     refine zO R3 (zO R3 (zO R3 (zO R3 (zO R3 (zP R6 (zM R4 (zO R3 (zO R3 (zO R3 (zO R3 (zO R3 (zP R6 (zM R4 (zO R3 (zO R3 (zO R3 (zO R3 (zO R3 (zP R6 (zA R4 (zN ?_)))))))))))))))))))));cases h;exact ⟨rfl, (), (sb .refl)⟩
    refine zO R3 (zO R3 (zO R3 (zO R3 (zO R3 (zP R6 (zM R4 (zO R3 (zO R3 (zO R3 (zO R3 (zO R3 (zP R6 (zM R4 (zO R3 (zO R3 (zO R3 (zO R3 (zO R3 (zP R6 (zM R4 (zO R3 (zO R3 (zO R3 (zO R3 (zO R3 (zP R6 (zA R4 (zN ?_))))))))))))))))))))))))))));cases h;exact ⟨rfl, (), (sb .refl)⟩
   refine zO R3 (zO R3 (zO R3 (zO R3 (zO R3 (zP R6 (zM R4 (zO R3 (zO R3 (zO R3 (zO R3 (zO R3 (zP R6 (zM R4 (zO R3 (zO R3 (zO R3 (zO R3 (zO R3 (zP R6 (zM R4 (zO R3 (zO R3 (zO R3 (zO R3 (zO R3 (zP R6 (zM R4 (zO R3 (zO R3 (zO R3 (zO R3 (zO R3 (zP R6 (zA R4 (zN ?_)))))))))))))))))))))))))))))))))));cases h;exact ⟨rfl, (), (sb .refl)⟩
  refine zO R3 (zO R3 (zO R3 (zO R3 (zO R3 (zP R6 (zM R4 (zO R3 (zO R3 (zO R3 (zO R3 (zO R3 (zP R6 (zM R4 (zO R3 (zO R3 (zO R3 (zO R3 (zO R3 (zP R6 (zM R4 (zO R3 (zO R3 (zO R3 (zO R3 (zO R3 (zP R6 (zM R4 (zO R3 (zO R3 (zO R3 (zO R3 (zO R3 (zP R6 (zM R4 (zO R3 (zO R3 (zO R3 (zO R3 (zO R3 ?_)))))))))))))))))))))))))))))))))))))));refine zP R6 (zA R4 (zN ?_));cases h;exact ⟨rfl, (), (sb .refl)⟩
 ·rintro x4 _ h;refine zR ?_;cases h;exact ⟨rfl, _, rfl, ⟨(), rfl, (pk [98,98] rfl)⟩⟩
end Go.Am.YthckcbfijdambaaGreat
end
section
namespace Go.Am
set_option linter.unusedVariables false
end Go.Am
end
section
namespace Go.Am.YthckcbfijdambaaGreat
open Go.Am Go.RowKit
set_option linter.unusedVariables false
set_option linter.unusedSimpArgs false
end Go.Am.YthckcbfijdambaaGreat
end
section
namespace Go.Am
set_option linter.unusedVariables false
noncomputable def P_c_Bound1 (a_ : Int) (b : Int) (p2_Leaves : List Int) (p2_Lost : List Int) (p2_Pieces : Int) (p2_Strange : List Int) (p2_Twice : List Int) (p2_Moved : List Int) (p2_All : Int) : Option Int :=
  el p2_Leaves a_ fun a9 =>
  el p2_Leaves b fun a14 =>
  chk (I64 (a9 - a14)) (
    some (a9 - a14))
end Go.Am
end
section
namespace Go.Am.YthckcbfijdambaaGreat
open Go.Am Go.RowKit
set_option linter.unusedVariables false
set_option linter.unusedSimpArgs false
set_option maxRecDepth 10000 in
theorem tf_c_Bound1 {C : List Thing} {a_ : Int} {b : Int} {id_p2 : Nat} {v_p2_Leaves : AV} {p2_Leaves : List Int} {v_p2_Lost : AV} {p2_Lost : List Int} {p2_Pieces : Int} {v_p2_Strange : AV} {p2_Strange : List Int} {v_p2_Twice : AV} {p2_Twice : List Int} {v_p2_Moved : AV} {p2_Moved : List Int} {p2_All : Int} (h_p2_Leaves : Rdl C encI v_p2_Leaves p2_Leaves) (h_p2_Lost : Rdl C encI v_p2_Lost p2_Lost) (h_p2_Strange : Rdl C encI v_p2_Strange p2_Strange) (h_p2_Twice : Rdl C encI v_p2_Twice p2_Twice) (h_p2_Moved : Rdl C encI v_p2_Moved p2_Moved) (h_p2 : Thing.row id_p2 7 [v_p2_Leaves, v_p2_Lost, iv (p2_Pieces), v_p2_Strange, v_p2_Twice, v_p2_Moved, iv (p2_All)] ∈ C) {r : Int} (h : P_c_Bound1 a_ b p2_Leaves p2_Lost p2_Pieces p2_Strange p2_Twice p2_Moved p2_All = some r) :
  Still env0 61 [iv (a_), iv (b), .ptr id_p2 0 7] C (iv r) := by
 unfold P_c_Bound1 at h;refine Still.enter (fn := Go.Proofs.Tryz.f61) rfl rfl rfl rfl rfl ?_;refine CS.seq ?_;refine CS.text rfl ?_;refine zA R4 (zN ?_);refine CS.seq ?_;refine CS.draw (fun v => sameC_refl v) (l1 := [0, 1, 2, 3, 4, 5, 6, 7, 8, 9, 10, 11]) (l2 := []) (by kernel_rfl) (by kernel_rfl) ?_;refine zF 0 R6 (zV R3 (Val.load_rowM h_p2 mem0 ⟨_, rfl, rfl⟩ rfl rfl rfl) (zM R4 ?_));obtain ⟨a9, hia9, ea9, h⟩ := el_some h;refine TO.fact (rdl_at h_p2_Leaves mem0 hia9 ea9) (fun hp=>?_);obtain ⟨pa9, hpa9, hva9⟩ := hp;refine zV R3 (hva9 ⟨rfl, rfl⟩ rfl rfl) (zV R3 (Val.load_e hpa9 mem0 ⟨_, rfl, rfl⟩ rfl rfl) (zF 0 R6 (zV R3 (Val.load_rowM h_p2 mem0 ⟨_, rfl, rfl⟩ rfl rfl rfl) (zM R4 ?_))));obtain ⟨a14, hia14, ea14, h⟩ := el_some h;refine TO.fact (rdl_at h_p2_Leaves mem0 hia14 ea14) (fun hp=>?_);obtain ⟨pa14, hpa14, hva14⟩ := hp;refine zV R3 (hva14 ⟨rfl, rfl⟩ rfl rfl) (zV R3 (Val.load_e hpa14 mem0 ⟨_, rfl, rfl⟩ rfl rfl) ?_);obtain ⟨hk16, h⟩ := chk_some h;refine zV R3 (Val.sub rfl rfl hk16) (zA R4 (zN ?_));refine CS.ret ?_;cases h;exact ⟨rfl, _, rfl, rfl⟩
end Go.Am.YthckcbfijdambaaGreat
end
section
namespace Go.Am
set_option linter.unusedVariables false
theorem keyAt_get {t : List Int} {x : Int} (h0 : 0 ≤ x) (h1 : x < (t.length : Int)) : t[x.toNat]? = some (keyAt t x) := by
 unfold keyAt;rw [List.getElem?_eq_getElem (show x.toNat < t.length by omega)]
theorem c_Bound1_ok {t l lo st tw mv : List Int} {pc al x y : Int} (h : SortOk t l) (a1 : 0 ≤ x) (a2 : x < (t.length : Int)) (a3 : 0 ≤ y) (a4 : y < (t.length : Int)) : P_c_Bound1 x y t lo pc st tw mv al = some (keyAt t x - keyAt t y) := by
 have h1 := h.2.2.2 _ (List.mem_of_getElem? (keyAt_get a1 a2))
 have h2 := h.2.2.2 _ (List.mem_of_getElem? (keyAt_get a3 a4));unfold P_c_Bound1 el;rw [if_pos a1, keyAt_get a1 a2];simp only;rw [if_pos a3, keyAt_get a3 a4];simp only;rw [chk_pos (by unfold I64; omega)]
end Go.Am
end
section
namespace Go.Am
set_option linter.unusedVariables false
noncomputable def P_c_Bound_L2 (y9_8 : List Int) (y9_9 : Bool) (x18 : Int) : Int → Option (Stp Int (Ex Unit Int)) := fun x8 =>
  if x8 < (((GSo y9_9 encI y9_8).l).length : Int) then
    el ((GSo y9_9 encI y9_8).l) x8 fun a14 =>
    if x18 = a14 then
      some (Stp.dn (Ex.rt x8))
    else
      chk (I64 (x8 + 1)) (
        some (Stp.ag (x8 + 1)))
  else
    some (Stp.dn (Ex.nx ()))
noncomputable def P_c_Bound_L1 (y9 : List Int) (y9_2 : Bool) (y9_8 : List Int) (y9_9 : Bool) : (Int × (List Int)) → Option (Stp (Int × (List Int)) (List Int)) := fun (x18, items) =>
  if x18 < (((GSo y9_2 encI y9).l).length : Int) then
    andx (
      el ((GSo y9_2 encI y9).l) x18 fun a21 =>
      andx (
        if a21 ≥ 0 then
          andx (
            seqx (
              iter (P_c_Bound_L2 y9_8 y9_9 x18) 0) fun _ =>
              some (-1)) fun y7 =>
            some (!(decide (y7 ≥ 0)))
        else
          some false) fun x31 =>
        if x31 = true then
          chk (items.length + [x18].length < 1000000000) (
            some (items ++ [x18]))
        else
          some items) fun items_2 =>
      chk (I64 (x18 + 1)) (
        some (Stp.ag ((x18 + 1), items_2)))
  else
    some (Stp.dn items)
noncomputable def P_c_Bound (c_Book_Signed : Int) (c_Book_Gatherings : List Gat) (c_Items : List Item) : Option ((List Int) × Int) :=
  andx (P_c_Faults c_Book_Signed c_Book_Gatherings c_Items) fun (y9, y9_2, y9_3, y9_4, y9_5, y9_6, y9_7, y9_8, y9_9, y9_10, y9_11, y9_12, y9_13) =>
    if ¬ y9_13 = 0 then
      some ([], y9_13)
    else
      andx (
        iter (P_c_Bound_L1 y9 y9_2 y9_8 y9_9) (0, [])) fun items =>
        chk (SortOk ((GSo y9_2 encI y9).l) items) (
          some (sortBy (keyAt ((GSo y9_2 encI y9).l)) items, 0))
noncomputable def P_r4_Bound_L2 (y12 : List Int) (y12_2 : Bool) (n : Int) (out : List Int) : Int → Option (Stp Int (List Int)) := fun i =>
  if i < (((GSo y12_2 encI y12).l).length : Int) then
    el ((GSo y12_2 encI y12).l) i fun a37 =>
    if a37 = n then
      chk (out.length + [i].length < 1000000000) (
        some (Stp.dn (out ++ [i])))
    else
      chk (I64 (i + 1)) (
        some (Stp.ag (i + 1)))
  else
    some (Stp.dn out)
noncomputable def P_r4_Bound_L1 (y12 : List Int) (y12_2 : Bool) (all20 : List Leaf) : (Int × (List Int)) → Option (Stp (Int × (List Int)) (List Int)) := fun (n, out) =>
  if n < (all20.length : Int) then
    andx (
      iter (P_r4_Bound_L2 y12 y12_2 n out) 0) fun out_2 =>
      chk (I64 (n + 1)) (
        some (Stp.ag ((n + 1), out_2)))
  else
    some (Stp.dn out)
noncomputable def P_r4_Bound (c_Book_Signed : Int) (c_Book_Gatherings : List Gat) (c_Items : List Item) : Option ((List Int) × Int) :=
  andx (P_r4_Faults c_Book_Signed c_Book_Gatherings c_Items) fun (y12, y12_2, y12_3, y12_4, y12_5, y12_6, y12_7, y12_8, y12_9, y12_10, y12_11, y12_12, y12_13) =>
    if ¬ y12_13 = 0 then
      some ([], y12_13)
    else
      andx (P_r1_All c_Book_Signed c_Book_Gatherings) fun all20 =>
        andx (
          iter (P_r4_Bound_L1 y12 y12_2 all20) (0, [])) fun out =>
          some (out, 0)
noncomputable def P_law_CopyFaults (c_Book_Signed : Int) (c_Book_Gatherings : List Gat) (c_Items : List Item) : Option Bool :=
  andx (P_c_Check c_Book_Signed c_Book_Gatherings c_Items) fun (y17, y17_2, y17_3) =>
    andx (P_r4_Check c_Book_Signed c_Book_Gatherings c_Items) fun (y23, y23_2, y23_3) =>
      seqx (
        andx (
          if ¬ y17 = y23 then
            some true
          else
            if ¬ y17_2 = y23_2 then
              some true
            else
              some (decide (¬ y17_3 = y23_3))) fun x39 =>
          if x39 = true then
            some (Ex.rt false)
          else
            some (Ex.nx ())) fun _ =>
        andx (P_c_Faults c_Book_Signed c_Book_Gatherings c_Items) fun (y42, y42_2, y42_3, y42_4, y42_5, y42_6, y42_7, y42_8, y42_9, y42_10, y42_11, y42_12, y42_13) =>
          andx (P_r4_Faults c_Book_Signed c_Book_Gatherings c_Items) fun (y47, y47_2, y47_3, y47_4, y47_5, y47_6, y47_7, y47_8, y47_9, y47_10, y47_11, y47_12, y47_13) =>
            seqx (
              andx (
                andx (P_r4_Same ((GSo y42_2 encI y42).l) ((GSo y42_4 encI y42_3).l) y42_5 ((GSo y42_7 encI y42_6).l) ((GSo y42_9 encI y42_8).l) ((GSo y42_11 encI y42_10).l) y42_12 ((GSo y47_2 encI y47).l) ((GSo y47_4 encI y47_3).l) y47_5 ((GSo y47_7 encI y47_6).l) ((GSo y47_9 encI y47_8).l) ((GSo y47_11 encI y47_10).l) y47_12) fun y52 =>
                  if y52 = true then
                    some (decide (¬ y42_13 = y47_13))
                  else
                    some true) fun x58 =>
                if x58 = true then
                  some (Ex.rt false)
                else
                  some (Ex.nx ())) fun _ =>
              andx (P_c_Range c_Book_Signed c_Book_Gatherings c_Items) fun (y61, y61_2, y61_3) =>
                andx (P_r4_Range c_Book_Signed c_Book_Gatherings c_Items) fun (y66, y66_2, y66_3) =>
                  seqx (
                    andx (
                      if ¬ (y61 = y66 ∧ y61_2 = y66_2) then
                        some true
                      else
                        some (decide (¬ y61_3 = y66_3))) fun x76 =>
                      if x76 = true then
                        some (Ex.rt false)
                      else
                        some (Ex.nx ())) fun _ =>
                    andx (P_c_Bound c_Book_Signed c_Book_Gatherings c_Items) fun (y79, y79_2) =>
                      andx (P_r4_Bound c_Book_Signed c_Book_Gatherings c_Items) fun (y84, y84_2) =>
                        andx (
                          andx (P_r1_Ints y79 y84) fun same89 =>
                            if same89 = true then
                              if y79_2 = y84_2 then
                                some true
                              else
                                some false
                            else
                              some false) fun x2 =>
                          some x2
end Go.Am
end
