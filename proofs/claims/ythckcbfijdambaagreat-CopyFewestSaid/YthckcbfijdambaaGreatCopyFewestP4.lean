/- Part 4. -/
import Derived.Test.YthckcbfijdambaaGreatCopyFewestP3
import Derived.Test.YthckcbfijdambaaGreatCopyFewestP2
import Derived.ChangeArms
import Derived.ChangeSlices
import Derived.OpenShut
import Derived.Test.YthckcbfijdambaaGreatRows
import Derived.ProofKit
section
namespace Go.Am.YthckcbfijdambaaGreat
open Go.Am Go.RowKit
set_option linter.unusedVariables false
set_option linter.unusedSimpArgs false
set_option maxRecDepth 10000 in
theorem tf_c_open {k : Nat} (hk : 5 ≤ k) {C : List Thing} {c_Book_Signed : Int} {v_c_Book_Gatherings : AV} {c_Book_Gatherings : List Gat} {v_c_Items : AV} {c_Items : List Item} (h_c_Book_Gatherings : Rdl C encG v_c_Book_Gatherings c_Book_Gatherings) (h_c_Items : Rdl C encIt v_c_Items c_Items) {r : Sum (Int × Int × Int) (Int × (GS encL) × (List Int) × Int × Int × Int)} (h : P_c_open c_Book_Signed c_Book_Gatherings c_Items = some r) :
  TF (EL k) 40 [.agg [iv (c_Book_Signed), v_c_Book_Gatherings, v_c_Items]] C (RepS (fun (r : Int × Int × Int) => RepF (fun (w : Unit) => .tuple [.lit (.pointer none), iv r.1, iv r.2.1, iv r.2.2]) (fun (w : Unit) => C)) (fun (r : Int × (GS encL) × (List Int) × Int × Int × Int) => RepF (fun (w : Nat × AV) => .tuple [.ptr w.1 0 5, iv r.2.2.2.1, iv r.2.2.2.2.1, iv r.2.2.2.2.2]) (fun (w : Nat × AV) => .row w.1 5 [iv r.1, v_c_Book_Gatherings, v_c_Items, r.2.1.v, w.2] :: ownL true w.2 encI r.2.2.1 :: C)) r) := by
 unfold P_c_open at h;refine TF.enter (fn := Go.Proofs.Tryz.f40) rfl rfl rfl rfl rfl (zU rfl (zQ 3 [_,_,_] R7 (fun b1=>zA R4 (zA R4 (zA R4 (zA R4 (zN (zS (zU rfl (zF 0 R6 (zV R3 (vW 0 [_,_] R5 R4) ?_)))))))))));obtain ⟨⟨part21, at_21, e21⟩, hr21, h⟩ := andx_some h;dsimp only at h;obtain ⟨g, hgg, hrg⟩ := Rdl.reif (hs := .row b1 3 [iv (c_Book_Signed), v_c_Book_Gatherings, v_c_Items] :: C) h_c_Book_Gatherings M1 (ReifL.flat encG_tr);refine TO.call rfl rfl rfl rfl rfl (orcL rfl aD) (.cons (.agg (.cons .lit (.cons (hrg _) .nil))) .nil) (sem_of (w_q_Check c_Book_Signed g _ (by try rw [hgg]; exact hr21))) (zM R4 (zX R5 (zX R5 (zX R5 (zA R4 (zN (zU rfl (zM R4 ?_))))))));obtain ⟨c26, hc26⟩ := zY (¬ e21 = 0);refine zV R3 (Val.neq hc26 rfl rfl) (zN ?_);obtain ⟨rfl, hc26, h⟩ | ⟨rfl, hc26, h⟩ := zI hc26 h
 ·refine zC rfl (zU rfl (zM R4 (zA R4 (zA R4 (zA R4 (zA R4 (zN (zR ?_))))))));cases h;exact ⟨rfl, _, rfl, ⟨(), rfl, (pk [98] rfl)⟩⟩
 refine zD rfl (zK (zU rfl (zF 0 R6 (zV R3 (vW 0 [_,_] R5 R4) ?_))));obtain ⟨⟨leaves31, e31⟩, hr31, h⟩ := andx_some h;dsimp only at h;obtain ⟨g_2, hgg_2, hrg_2⟩ := Rdl.reif (hs := .row b1 3 [iv (c_Book_Signed), v_c_Book_Gatherings, v_c_Items] :: C) h_c_Book_Gatherings M1 (ReifL.flat encG_tr);refine TO.call rfl rfl rfl rfl rfl (orcL rfl aD) (.cons (.agg (.cons .lit (.cons (hrg_2 _) .nil))) .nil) (sem_of (w_q_Leaves c_Book_Signed g_2 _ (by try rw [hgg_2]; exact hr31))) (zM R4 (zX R5 (zX R5 (zA R4 (zA R4 (zN (zS (zU rfl (zM R4 (zV R3 (Val.len_gs rfl rfl) ?_))))))))));obtain ⟨c36, hc36⟩ := zY ((leaves31.length : Int) > 120);refine zV R3 (Val.gtr hc36 rfl rfl) (zN ?_);obtain ⟨rfl, hc36, h⟩ | ⟨rfl, hc36, h⟩ := zI hc36 h
 ·refine zC rfl (zU rfl (zA R4 (zA R4 (zA R4 (zA R4 (zN (zR ?_)))))));cases h;exact ⟨rfl, _, rfl, ⟨(), rfl, (pk [98] rfl)⟩⟩
 refine zD rfl (zK (zS (zU rfl (zF 2 R6 (zL 0 R3 R6 (zV R3 (Val.len_l h_c_Items M1 rfl rfl) ?_))))));obtain ⟨c40, hc40⟩ := zY ((c_Items.length : Int) > 120);refine zV R3 (Val.gtr hc40 rfl rfl) (zN ?_);obtain ⟨rfl, hc40, h⟩ | ⟨rfl, hc40, h⟩ := zI hc40 h
 ·refine zC rfl (zU rfl (zA R4 (zA R4 (zA R4 (zA R4 (zN (zR ?_)))))));cases h;exact ⟨rfl, _, rfl, ⟨(), rfl, (pk [98] rfl)⟩⟩
 refine zD rfl (zK ?_)
 show T _ _ _ _ _ _;apply T.join (r := r) (W := Unit) (fun j w => ⟨[], [(1, .ptr b1 0 3), (6, (GSo true encL leaves31).v)], .row b1 3 [iv (c_Book_Signed), v_c_Book_Gatherings, v_c_Items] :: C⟩) h
 ·intro j h;refine zU rfl (zF 2 R6 (zL 0 R3 R6 (zV R3 (Val.len_l h_c_Items M1 rfl rfl) (zM R4 (zN (zB ?_))))))
  show T _ _ _ _ _ _;apply T.iter (r := j) (W := Unit) (fun j w => ⟨[], [(1, .ptr b1 0 3), (6, (GSo true encL leaves31).v), (42, v_c_Items), (43, iv ((c_Items.length : Int))), (44, iv (j))], .row b1 3 [iv (c_Book_Signed), v_c_Book_Gatherings, v_c_Items] :: C⟩) (w0 := ()) h
  ·exact (sb .refl)
  rintro x44 _ a h;unfold P_c_open_L1 at h;refine zU rfl ?_;obtain ⟨c45, hc45⟩ := zY (x44 < (c_Items.length : Int));refine zV R3 (Val.lss hc45 rfl rfl) (zN (zS ?_));obtain ⟨rfl, hc45, h⟩ | ⟨rfl, hc45, h⟩ := zI hc45 h
  ·refine zC rfl (zK ?_)
   show T _ _ _ _ _ _;apply T.join (r := a) (W := Unit) (fun j w => ⟨[], [(1, .ptr b1 0 3), (6, (GSo true encL leaves31).v), (42, v_c_Items), (43, iv ((c_Items.length : Int))), (44, iv (x44))], .row b1 3 [iv (c_Book_Signed), v_c_Book_Gatherings, v_c_Items] :: C⟩) h
   ·intro j h;refine zB (zU rfl (zM R4 ?_));obtain ⟨a47, hia47, ea47, h⟩ := el_some h;refine TO.fact (rdl_at h_c_Items M1 hia47 ea47) (fun hp=>?_);obtain ⟨pa47, hpa47, hva47⟩ := hp;refine zV R3 (hva47 ⟨rfl, rfl⟩ rfl rfl) (zV R3 (Val.load_es (c := [_]) hpa47 M1 ⟨⟨_, rfl, rfl⟩, rfl, by decide⟩ rfl rfl rfl) (zJ 1 [_] R7 (fun b9=>zA R4 (TO.eff0 rfl rfl (Eff.store_row (p := 0) (cv := [_]) (cells' := [_]) rfl rfl rfl rfl rfl rfl rfl rfl aG (by decide) rfl) ?_))));rintro _ rfl;refine zG (_::_::C) rfl (zN (zS (zB (zU rfl (zF 0 R6 (zL 0 R3 R6 (zV R3 (Val.len_gs rfl rfl) ?_)))))));obtain ⟨c53, hc53⟩ := zY ((a47.could.l.length : Int) > 4);refine zV R3 (Val.gtr hc53 rfl rfl) (zA R4 (zN ?_));obtain ⟨rfl, hc53, h⟩ | ⟨rfl, hc53, h⟩ := zI hc53 h
    ·refine zC rfl (zU rfl (zM R4 (zA R4 (zA R4 (zA R4 (zA R4 (zN (zR ?_))))))));cases h;exact ⟨ret_ne, ⟨ret_ne, ⟨ret_ne, ⟨rfl, _, rfl, ⟨(), rfl, (pk [98,98] rfl)⟩⟩⟩⟩⟩
    refine zD rfl (zU rfl (zM R4 (zV R3 (Val.len_gs rfl rfl) ?_)));obtain ⟨hk58, h⟩ := chk_some h;refine zV R3 (Val.sub rfl rfl hk58) (zF 0 R6 (zL 0 R3 R6 ?_));obtain ⟨out61, hr61, h⟩ := andx_some h;refine TO.call rfl rfl rfl rfl rfl (orcL rfl aD) (.cons .lit (.cons .lit (.cons .gs .nil))) (sem_of (w_c_outside 0 ((leaves31.length : Int) - 1) a47.could _ (by exact hr61))) (zA R4 (zN ?_));obtain ⟨rfl, h⟩ | ⟨rfl, h⟩ := zZ h
    ·refine zC rfl (zU rfl (zM R4 (zA R4 (zA R4 (zA R4 (zA R4 (zN (zR ?_))))))));cases h;exact ⟨ret_ne, ⟨ret_ne, ⟨ret_ne, ⟨rfl, _, rfl, ⟨(), rfl, (pk [98,98] rfl)⟩⟩⟩⟩⟩
    refine zD rfl (zK (zU rfl (zF 0 R6 (zL 0 R3 R6 (zV R3 (Val.len_gs rfl rfl) (zM R4 (zN (zB ?_))))))))
    show T _ _ _ _ _ _;apply T.iter (r := j) (W := Unit) (fun j w => ⟨[], [(1, .ptr b1 0 3), (6, (GSo true encL leaves31).v), (8, iv (x44)), (9, .ptr b9 0 1), (42, v_c_Items), (43, iv ((c_Items.length : Int))), (44, iv (x44)), (64, a47.could.v), (65, iv ((a47.could.l.length : Int))), (66, iv (j))], .row b9 1 [a47.could.v] :: .row b1 3 [iv (c_Book_Signed), v_c_Book_Gatherings, v_c_Items] :: C⟩) (w0 := ()) h
    ·exact (sb .refl)
    rintro x66 _ a h;unfold P_c_open_L2 at h;refine zU rfl ?_;obtain ⟨c67, hc67⟩ := zY (x66 < (a47.could.l.length : Int));refine zV R3 (Val.lss hc67 rfl rfl) (zN (zS ?_));obtain ⟨rfl, hc67, h⟩ | ⟨rfl, hc67, h⟩ := zI hc67 h
    ·refine zC rfl (zK ?_)
     show T _ _ _ _ _ _;apply T.join (r := a) (W := Unit) (fun j w => ⟨[], [(1, .ptr b1 0 3), (6, (GSo true encL leaves31).v), (8, iv (x44)), (9, .ptr b9 0 1), (42, v_c_Items), (43, iv ((c_Items.length : Int))), (44, iv (x44)), (64, a47.could.v), (65, iv ((a47.could.l.length : Int))), (66, iv (x66))], .row b9 1 [a47.could.v] :: .row b1 3 [iv (c_Book_Signed), v_c_Book_Gatherings, v_c_Items] :: C⟩) h
     ·intro j h;refine zB (zU rfl (zM R4 ?_));obtain ⟨a69, hia69, ea69, h⟩ := el_some h;refine TO.fact (rdl_at (Rdl.gs (C := C) a47.could) M2 hia69 ea69) (fun hp=>?_);obtain ⟨pa69, hpa69, hva69⟩ := hp;refine zV R3 (hva69 ⟨rfl, rfl⟩ rfl rfl) (zV R3 (Val.load_e hpa69 M2 ⟨_, rfl, rfl⟩ rfl rfl) (zA R4 (zA R4 (zN ?_))))
      show T _ _ _ _ _ _;apply T.joinA (r := j) (W := Unit) (fun j w => ⟨[], [(1, .ptr b1 0 3), (6, (GSo true encL leaves31).v), (8, iv (x44)), (9, .ptr b9 0 1), (42, v_c_Items), (43, iv ((c_Items.length : Int))), (44, iv (x44)), (64, a47.could.v), (65, iv ((a47.could.l.length : Int))), (66, iv (x66)), (82, bv j)], .row b9 1 [a47.could.v] :: .row b1 3 [iv (c_Book_Signed), v_c_Book_Gatherings, v_c_Items] :: C⟩) h
      ·intro j h;refine zT rfl (zM R4 ?_);obtain ⟨c72, hc72⟩ := zY (x66 > 0);refine zV R3 (Val.gtr hc72 rfl rfl) (zM R4 ?_);obtain ⟨rfl, hc72, h⟩ | ⟨rfl, hc72, h⟩ := zI hc72 h
       ·refine zM R4 (zF 0 R6 (zL 0 R3 R6 (zM R4 ?_)));obtain ⟨hk78, h⟩ := chk_some h;refine zV R3 (Val.sub rfl rfl hk78) ?_;obtain ⟨a79, hia79, ea79, h⟩ := el_some h;refine TO.fact (rdl_at (Rdl.gs (C := C) a47.could) M2 hia79 ea79) (fun hp=>?_);obtain ⟨pa79, hpa79, hva79⟩ := hp;refine zV R3 (hva79 ⟨rfl, rfl⟩ rfl rfl) (zV R3 (Val.load_e hpa79 M2 ⟨_, rfl, rfl⟩ rfl rfl) ?_);obtain ⟨c81, hc81⟩ := zY (a69 ≤ a79);refine zV R3 (Val.leq hc81 rfl rfl) (zP R6 (zN ?_));subst hc81;cases h;exact ⟨rfl, (), (sb .refl)⟩
       refine zO R3 (zO R3 (zO R3 (zO R3 (zO R3 (zO R3 (zO R3 (zO R3 (zP R6 (zN ?_)))))))));cases h;exact ⟨rfl, (), (sb .refl)⟩
      ·rintro x82 _ h;obtain ⟨rfl, h⟩ | ⟨rfl, h⟩ := zZ h
       ·refine zC rfl (zU rfl (zM R4 (zA R4 (zA R4 (zA R4 (zA R4 (zN (zR ?_))))))));cases h;exact ⟨ret_ne, ⟨ret_ne, ⟨ret_ne, ⟨ret_ne, ⟨ret_ne, ⟨rfl, _, rfl, ⟨(), rfl, (pk [98,98] rfl)⟩⟩⟩⟩⟩⟩⟩
       refine zD rfl (zK ?_);cases h;exact ⟨rfl, (), (sb .refl)⟩
     ·rintro _ _ h;refine zT rfl ?_;obtain ⟨hk84, h⟩ := chk_some h;refine zV R3 (Val.add rfl rfl hk84) (zM R4 (zN ?_));cases h;exact ⟨rfl, (), (sb .refl)⟩
    refine zD rfl (zE ?_);cases h;exact ⟨ex_ne, ⟨rfl, (), (sb (pk [1,98] rfl))⟩⟩
   ·rintro _ _ h;refine zT rfl ?_;obtain ⟨hk85, h⟩ := chk_some h;refine zV R3 (Val.add rfl rfl hk85) (zM R4 (zN ?_));cases h;exact ⟨rfl, (), (sb .refl)⟩
  refine zD rfl (zE ?_);cases h;exact ⟨ex_ne, ⟨rfl, (), (sb .refl)⟩⟩
 ·rintro _ _ h;refine zU rfl (zA R4 (zN ?_))
  show T _ _ _ _ _ _;apply T.join (r := r) (W := Unit) (fun j w => ⟨[], [(1, .ptr b1 0 3), (6, (GSo true encL leaves31).v)], .row b1 3 [iv (c_Book_Signed), v_c_Book_Gatherings, v_c_Items] :: C⟩) h
  ·intro j h;refine zU rfl (zF 2 R6 (zL 0 R3 R6 (zV R3 (Val.len_l h_c_Items M1 rfl rfl) (zM R4 (zN (zB ?_))))))
   show T _ _ _ _ _ _;apply T.iter (r := j) (W := Unit) (fun j w => ⟨[], [(1, .ptr b1 0 3), (6, (GSo true encL leaves31).v), (12, iv (j.1)), (87, v_c_Items), (88, iv ((c_Items.length : Int))), (89, iv (j.2))], .row b1 3 [iv (c_Book_Signed), v_c_Book_Gatherings, v_c_Items] :: C⟩) (w0 := ()) h
   ·exact (sb .refl)
   rintro ⟨doubts, x89⟩ _ a h;unfold P_c_open_L3 at h;dsimp only at h;dsimp only;refine zU rfl ?_;obtain ⟨c90, hc90⟩ := zY (x89 < (c_Items.length : Int));refine zV R3 (Val.lss hc90 rfl rfl) (zN (zS ?_));obtain ⟨rfl, hc90, h⟩ | ⟨rfl, hc90, h⟩ := zI hc90 h
   ·refine zC rfl (zK ?_)
    show T _ _ _ _ _ _;apply T.join (r := a) (W := Unit) (fun j w => ⟨[], [(1, .ptr b1 0 3), (6, (GSo true encL leaves31).v), (12, iv (j)), (87, v_c_Items), (88, iv ((c_Items.length : Int))), (89, iv (x89))], .row b1 3 [iv (c_Book_Signed), v_c_Book_Gatherings, v_c_Items] :: C⟩) h
    ·intro j h;refine zB (zU rfl (zM R4 ?_));obtain ⟨a92, hia92, ea92, h⟩ := el_some h;refine TO.fact (rdl_at h_c_Items M1 hia92 ea92) (fun hp=>?_);obtain ⟨pa92, hpa92, hva92⟩ := hp;refine zV R3 (hva92 ⟨rfl, rfl⟩ rfl rfl) (zV R3 (Val.load_es (c := [_]) hpa92 M1 ⟨⟨_, rfl, rfl⟩, rfl, by decide⟩ rfl rfl rfl) (zJ 1 [_] R7 (fun b14=>zA R4 (TO.eff0 rfl rfl (Eff.store_row (p := 0) (cv := [_]) (cells' := [_]) rfl rfl rfl rfl rfl rfl rfl rfl aG (by decide) rfl) ?_))));rintro _ rfl;refine zG (_::_::C) rfl (zN ?_)
     show T _ _ _ _ _ _;apply T.joinA (r := j) (W := Unit) (fun j w => ⟨[], [(1, .ptr b1 0 3), (6, (GSo true encL leaves31).v), (12, iv (j)), (13, iv (x89)), (87, v_c_Items), (88, iv ((c_Items.length : Int))), (89, iv (x89))], .row b14 1 [a92.could.v] :: .row b1 3 [iv (c_Book_Signed), v_c_Book_Gatherings, v_c_Items] :: C⟩) h
     ·intro j h;refine zU rfl (zF 0 R6 (zL 0 R3 R6 (zV R3 (Val.len_gs rfl rfl) ?_)));obtain ⟨c97, hc97⟩ := zY ((a92.could.l.length : Int) > 1);refine zV R3 (Val.gtr hc97 rfl rfl) (zN ?_);obtain ⟨rfl, hc97, h⟩ | ⟨rfl, hc97, h⟩ := zI hc97 h
      ·refine zC rfl (zT rfl (zM R4 ?_));obtain ⟨hk99, h⟩ := chk_some h;refine zV R3 (Val.add rfl rfl hk99) (zA R4 (zN ?_));cases h;exact ⟨rfl, (), (sb .refl)⟩
      refine zD rfl (zK ?_);cases h;exact ⟨rfl, (), (sb .refl)⟩
     ·rintro doubts_2 _ h;refine zU rfl (zM R4 ?_);obtain ⟨c101, hc101⟩ := zY (doubts_2 > 3);refine zV R3 (Val.gtr hc101 rfl rfl) (zN ?_);obtain ⟨rfl, hc101, h⟩ | ⟨rfl, hc101, h⟩ := zI hc101 h
      ·refine zC rfl (zU rfl (zM R4 (zA R4 (zA R4 (zA R4 (zA R4 (zN (zR ?_))))))));cases h;exact ⟨ret_ne, ⟨ret_ne, ⟨ret_ne, ⟨rfl, _, rfl, ⟨(), rfl, (pk [98,98] rfl)⟩⟩⟩⟩⟩
      refine zD rfl (zK ?_);cases h;exact ⟨rfl, (), (sb (pk [1,98] rfl))⟩
    ·rintro doubts_2 _ h;refine zT rfl ?_;obtain ⟨hk103, h⟩ := chk_some h;refine zV R3 (Val.add rfl rfl hk103) (zM R4 (zN ?_));cases h;exact ⟨rfl, (), (sb .refl)⟩
   refine zD rfl (zE ?_);cases h;exact ⟨ex_ne, ⟨rfl, (), (sb .refl)⟩⟩
  ·rintro _ _ h;refine zU rfl (zV R3 (vW 0 [_,_,_] R5 R4) (zM R4 (zV R3 (Val.buildC (cs := [_, _, _, _, _]) (vs := [(_, _), (_, _)]) (ws := [(_, [_, _, _]), (_, [_])]) rfl rfl (CellsL.cons rfl (CellsL.cons (GS.cells (GSo true encL leaves31)).1 CellsL.nil)) rfl) (zQ 5 [_,_,_,_,_] R7 (fun b107=>zA R4 (zN ?_))))))
   show T _ _ _ _ _ _;apply T.joinA (r := r) (W := AV) (fun j w => ⟨[], [(2, .ptr b107 0 5)], ownL true w encI j :: .row b107 5 [iv (c_Book_Signed), v_c_Book_Gatherings, v_c_Items, (GSo true encL leaves31).v, w] :: .row b1 3 [iv (c_Book_Signed), v_c_Book_Gatherings, v_c_Items] :: C⟩) h
   ·intro j h;refine zU rfl (zM R4 (zV R3 (Val.len_gs rfl rfl) (zM R4 (zN (zB (T.nilown (u := encI.u) ?_))))))
    show T _ _ _ _ _ _;apply T.iter (r := j) (W := AV) (fun j w => ⟨[], [(1, .ptr b1 0 3), (2, .ptr b107 0 5), (109, iv ((leaves31.length : Int))), (110, iv (j.1))], ownL true w encI j.2 :: .row b107 5 [iv (c_Book_Signed), v_c_Book_Gatherings, v_c_Items, (GSo true encL leaves31).v, w] :: .row b1 3 [iv (c_Book_Signed), v_c_Book_Gatherings, v_c_Items] :: C⟩) (w0 := nilS) h
    ·exact (sb .refl)
    rintro ⟨x110, b107_mates⟩ v5 a h;unfold P_c_open_L4 at h;dsimp only at h;dsimp only;refine zU rfl ?_;obtain ⟨c111, hc111⟩ := zY (x110 < (leaves31.length : Int));refine zV R3 (Val.lss hc111 rfl rfl) (zN (zS ?_));obtain ⟨rfl, hc111, h⟩ | ⟨rfl, hc111, h⟩ := zI hc111 h
    ·refine zC rfl (zK ?_)
     show T _ _ _ _ _ _;apply T.joinA (r := a) (W := AV) (fun j w => ⟨[], [(1, .ptr b1 0 3), (2, .ptr b107 0 5), (109, iv ((leaves31.length : Int))), (110, iv (x110))], ownL true w encI j :: .row b107 5 [iv (c_Book_Signed), v_c_Book_Gatherings, v_c_Items, (GSo true encL leaves31).v, w] :: .row b1 3 [iv (c_Book_Signed), v_c_Book_Gatherings, v_c_Items] :: C⟩) h
     ·intro j h;refine zB (zU rfl (zM R4 (zA R4 (zN (zU rfl (zF 0 R6 (zV R3 (vW 2 [_,_] R5 R4) (zM R4 ?_))))))));obtain ⟨⟨mate117, e117⟩, hr117, h⟩ := andx_some h;dsimp only at h;obtain ⟨g_3, hgg_3, hrg_3⟩ := Rdl.reif (hs := ownL true v5 encI b107_mates :: .row b107 5 [iv (c_Book_Signed), v_c_Book_Gatherings, v_c_Items, (GSo true encL leaves31).v, v5] :: .row b1 3 [iv (c_Book_Signed), v_c_Book_Gatherings, v_c_Items] :: C) h_c_Book_Gatherings M3 (ReifL.flat encG_tr);refine TO.call rfl rfl rfl rfl rfl (orcL rfl aD) (.cons (.agg (.cons .lit (.cons (hrg_3 _) .nil))) (.cons .lit .nil)) (sem_of (w_q_Mate c_Book_Signed g_3 x110 _ (by try rw [hgg_3]; exact hr117))) (zM R4 (zX R5 (zX R5 (zA R4 (zA R4 (zN ?_))))))
      show T _ _ _ _ _ _;apply T.joinA (r := j) (W := Unit) (fun j w => ⟨[], [(1, .ptr b1 0 3), (2, .ptr b107 0 5), (16, iv (j)), (109, iv ((leaves31.length : Int))), (110, iv (x110))], ownL true v5 encI b107_mates :: .row b107 5 [iv (c_Book_Signed), v_c_Book_Gatherings, v_c_Items, (GSo true encL leaves31).v, v5] :: .row b1 3 [iv (c_Book_Signed), v_c_Book_Gatherings, v_c_Items] :: C⟩) h
      ·intro j h;refine zU rfl (zM R4 ?_);obtain ⟨c121, hc121⟩ := zY (¬ e117 = 0);refine zV R3 (Val.neq hc121 rfl rfl) (zN ?_);obtain ⟨rfl, hc121, h⟩ | ⟨rfl, hc121, h⟩ := zI hc121 h
       ·refine zC rfl (zT rfl (zA R4 (zN ?_)));cases h;exact ⟨rfl, (), (sb .refl)⟩
       refine zD rfl (zK ?_);cases h;exact ⟨rfl, (), (sb .refl)⟩
      ·rintro m _ h;refine zT rfl (zM R4 (zM R4 (zV R3 (Val.nil_ptr rfl) (zF 4 R6 (zL 1 R3 R6 (zM R4 (TO.build1 (en := encI) (a := m) rfl rfl rfl ⟨rfl, rfl⟩ ⟨_, rfl, rfl⟩ (by decide) (by decide) rfl rfl (fun v128=>?_))))))));obtain ⟨hk129, h⟩ := chk_some h;refine TO.eff rfl rfl rfl (Eff.append_own (b := 8) (en := encI) (l := b107_mates) (l2 := [m]) (p := 1) (q := 0) ⟨rfl, rfl, rfl, ⟨_, rfl, rfl⟩, by decide, by decide⟩ rfl rfl rfl rfl rfl rfl (flat_ones _) (by decide) hk129) ?_;rintro v129 _ rfl;refine zG (_::_::_::_::C) rfl (zV R3 (Val.nil_ptr rfl) (zF 4 R6 (TO.fact (own_cellS (p := 1) rfl) (fun hot5=>TO.eff0 rfl rfl (Eff.store_row (p := 2) (cv := [_]) (cells' := [_, _, _, _, _]) rfl rfl rfl rfl rfl hot5.1 rfl rfl (by first | rfl | (simp [GS.one, hot5.2]; done)) (by decide) rfl) ?_))));rintro _ rfl;refine zG (_::_::_::_::C) rfl (zN ?_);cases h;exact ⟨rfl, v129, (sb (pk [1,1,1,98] rfl))⟩
     ·rintro b107_mates_2 v5_2 h;refine zT rfl ?_;obtain ⟨hk132, h⟩ := chk_some h;refine zV R3 (Val.add rfl rfl hk132) (zM R4 (zN ?_));cases h;exact ⟨rfl, v5_2, (sb .refl)⟩
    refine zD rfl (zE ?_);cases h;exact ⟨ex_ne, ⟨rfl, v5, (sb .refl)⟩⟩
   ·rintro b107_mates v5 h;refine zU rfl (zM R4 (zA R4 (zA R4 (zA R4 (zA R4 (zN (zR ?_)))))));cases h;exact ⟨rfl, _, rfl, ⟨(b107, v5), rfl, (pk [1,0,98] rfl)⟩⟩
set_option maxRecDepth 10000 in
theorem tf_c_Faults {k : Nat} (hk : 5 ≤ k) {C : List Thing} {c_Book_Signed : Int} {v_c_Book_Gatherings : AV} {c_Book_Gatherings : List Gat} {v_c_Items : AV} {c_Items : List Item} (ht_c_Book_Gatherings : RdT encG v_c_Book_Gatherings c_Book_Gatherings) (ht_c_Items : RdT encIt v_c_Items c_Items) {r : (List Int) × Bool × (List Int) × Bool × Int × (List Int) × Bool × (List Int) × Bool × (List Int) × Bool × Int × Int} (h : P_c_Faults c_Book_Signed c_Book_Gatherings c_Items = some r) :
  TF (EL k) 23 [.agg [iv (c_Book_Signed), v_c_Book_Gatherings, v_c_Items]] C (RepF (fun (w : AV × AV × AV × AV × AV) => .tuple [.agg [w.1, w.2.1, iv r.2.2.2.2.1, w.2.2.1, w.2.2.2.1, w.2.2.2.2, iv r.2.2.2.2.2.2.2.2.2.2.2.1], iv r.2.2.2.2.2.2.2.2.2.2.2.2]) (fun (w : AV × AV × AV × AV × AV) => ownL r.2.1 w.1 encI r.1 :: ownL r.2.2.2.1 w.2.1 encI r.2.2.1 :: ownL r.2.2.2.2.2.2.1 w.2.2.1 encI r.2.2.2.2.2.1 :: ownL r.2.2.2.2.2.2.2.2.1 w.2.2.2.1 encI r.2.2.2.2.2.2.2.1 :: ownL r.2.2.2.2.2.2.2.2.2.2.1 w.2.2.2.2 encI r.2.2.2.2.2.2.2.2.2.1 :: C)) := by
 unfold P_c_Faults at h
 have h_c_Book_Gatherings : Rdl C encG v_c_Book_Gatherings c_Book_Gatherings := RdT.rdl ht_c_Book_Gatherings
 have h_c_Items : Rdl C encIt v_c_Items c_Items := RdT.rdl ht_c_Items;refine TF.enterG (fn := Go.Proofs.Tryz.f23) rfl rfl rfl rfl rfl (zU rfl (zQ 3 [_,_,_] R7 (fun b1=>zJ 7 [_,_,_,_,_,_,_] R7 (fun b2=>zA R4 (zN (T.scope (zU rfl (zV R3 (vW 1 [_,_,_] R5 R4) ?_))))))));obtain ⟨y12, hr12, h⟩ := andx_some h;cases y12 with
 | inl y12 =>
  obtain ⟨y12_2, y12_3, y12_4⟩ := y12;dsimp only at h;obtain ⟨hkn12, h⟩ := chk_some h;refine TO.callT (first := []) (cap := []) (vs := [.agg [iv (c_Book_Signed), v_c_Book_Gatherings, v_c_Items]]) rfl rfl rfl rfl rfl rfl (orcN rfl) (tf_c_open aD (Rdl.mono h_c_Book_Gatherings M2) (Rdl.mono h_c_Items M2) hr12) ?_;rintro _;refine zG (_::_::C) rfl (zM R4 (zX R5 (zX R5 (zX R5 (zX R5 (zJ 1 [_] R7 (fun b4=>TO.eff0 rfl rfl (Eff.store_row (p := 0) (cv := [_]) (cells' := [_]) rfl rfl rfl rfl rfl rfl rfl rfl aG (by decide) rfl) ?_)))))));rintro _ rfl;refine zG (_::_::_::C) rfl (zA R4 (zA R4 (zA R4 (zN (zS (zU rfl (zM R4 ?_)))))));obtain ⟨c18, hc18⟩ := zY (¬ y12_4 = 0);refine zV R3 (Val.neq hc18 rfl rfl) (zN ?_);obtain rfl : c18 = true := hc18.trans (decide_eq_true hkn12);refine zC rfl (zU rfl (zV R3 (vW 1 [_,_,_,_,_,_,_] R5 R4) (zM R4 (TO.eff0 rfl rfl (Eff.store_row (p := 1) (cv := [_, _, _, _, _, _, _]) (cells' := [_, _, _, _, _, _, _]) rfl rfl rfl rfl rfl rfl rfl rfl aG (by decide) rfl) ?_))));rintro _ rfl;refine zG (_::_::_::C) rfl (zA R4 (zN (T.nilown (u := encI.u) (T.nilown (u := encI.u) (T.nilown (u := encI.u) (T.nilown (u := encI.u) (T.nilown (u := encI.u) (zR ?_))))))));cases h;exact ⟨rfl, _, rfl, [_, _], ⟨⟨_, rfl, LoadR.rows (p := 6) (c := [_, _, _, _, _, _, _]) rfl ⟨⟨_, rfl, rfl⟩, rfl, by decide⟩ rfl rfl rfl⟩, ⟨rfl, trivial⟩⟩, ⟨(nilS, nilS, nilS, nilS, nilS), rfl, (pk [4,3,2,1,0,98,98,98] rfl)⟩⟩
 | inr y12 =>
  obtain ⟨y12_2, y12_3, y12_4, y12_5, y12_6, y12_7⟩ := y12;dsimp only at h;obtain ⟨hkn12, h⟩ := chk_some h;refine TO.callT (first := []) (cap := []) (vs := [.agg [iv (c_Book_Signed), v_c_Book_Gatherings, v_c_Items]]) rfl rfl rfl rfl rfl rfl (orcN rfl) (tf_c_open aD (Rdl.mono h_c_Book_Gatherings M2) (Rdl.mono h_c_Items M2) hr12) ?_;rintro ⟨w12, w12_2⟩;refine zG (_::_::_::_::C) rfl (zM R4 (zX R5 (zX R5 (zX R5 (zX R5 (zJ 1 [_] R7 (fun b4=>TO.eff0 rfl rfl (Eff.store_row (p := 0) (cv := [_]) (cells' := [_]) rfl rfl rfl rfl rfl rfl rfl rfl aG (by decide) rfl) ?_)))))));rintro _ rfl;refine zG (_::_::_::_::_::C) rfl (zA R4 (zA R4 (zA R4 (zN (zS (zU rfl (zM R4 ?_)))))));obtain ⟨c18, hc18⟩ := zY (¬ y12_7 = 0);refine zV R3 (Val.neq hc18 rfl rfl) (zN ?_);obtain rfl : c18 = false := hc18.trans (decide_eq_false (fun x => x hkn12));refine zD rfl (zK (zU rfl (zJ 1 [_] R7 (fun b7=>TO.eff0 rfl rfl (Eff.store_row (p := 0) (cv := [_]) (cells' := [_]) rfl rfl rfl rfl rfl rfl rfl rfl aG (by decide) rfl) ?_))));rintro _ rfl;refine zG (_::_::_::_::_::_::C) rfl (zN (zS (T.label ?_)))
  show T _ _ _ _ _ _;apply T.joinA (r := r) (W := Nat × AV × AV × AV × AV × AV) (fun j w => ⟨[w.1], [(2, .ptr b2 0 7)], .obj w.1 (.dfr true) :: ownL j.2.1 w.2.1 encI j.1 :: ownL true w.2.2.1 encI j.2.2.1 :: ownL true w.2.2.2.1 encI j.2.2.2.1 :: ownL true w.2.2.2.2.1 encI j.2.2.2.2.1 :: ownL true w.2.2.2.2.2 encI j.2.2.2.2.2.1 :: .row b7 1 [bv j.2.2.2.2.2.2.1] :: .row b2 7 [w.2.1, w.2.2.1, iv (j.2.2.2.2.2.2.2.1), w.2.2.2.1, w.2.2.2.2.1, w.2.2.2.2.2, iv (j.2.2.2.2.2.2.2.2)] :: .row b4 1 [.ptr w12 0 5] :: .row w12 5 [iv (y12_2), v_c_Book_Gatherings, v_c_Items, y12_3.v, w12_2] :: ownL true w12_2 encI y12_4 :: .row b1 3 [iv (c_Book_Signed), v_c_Book_Gatherings, v_c_Items] :: C⟩) h
  ·intro j h;refine zU rfl (zL 1 R3 R6 (TO.callIn rfl rfl rfl rfl rfl rfl (orcN rfl) (TF.enter (fn := Go.Proofs.Tryz.f54) rfl rfl rfl rfl rfl (zU rfl (zQ 1 [_] R7 (fun b1_2=>zA R4 (zN (zU rfl (zV R3 (Val.makeFunc rfl rfl) (zA R4 (zN (zR ?_))))))))))));refine ⟨rfl, _, rfl, ?_⟩;refine zN (zB (T.nilown (u := encI.u) (T.nilown (u := encI.u) (T.nilown (u := encI.u) (T.nilown (u := encI.u) (T.nilown (u := encI.u) ?_))))));obtain ⟨hkR1, h⟩ := chk_some h
   show T _ _ _ _ _ _;apply T.rangeP (r := j) (W := AV × AV × AV × AV × AV) (w0 := (nilS, nilS, nilS, nilS, nilS)) ArgT (fun (j : (List Int) × Bool × (List Int) × (List Int) × (List Int) × (List Int) × Bool × Int × Int) (w : AV × AV × AV × AV × AV) => [ownL j.2.1 w.1 encI j.1, ownL true w.2.1 encI j.2.2.1, ownL true w.2.2.1 encI j.2.2.2.1, ownL true w.2.2.2.1 encI j.2.2.2.2.1, ownL true w.2.2.2.2 encI j.2.2.2.2.2.1, .row b7 1 [bv j.2.2.2.2.2.2.1], .row b2 7 [w.1, w.2.1, iv (j.2.2.2.2.2.2.2.1), w.2.2.1, w.2.2.2.1, w.2.2.2.2, iv (j.2.2.2.2.2.2.2.2)]]) (.row b1_2 1 [.ptr w12 0 5] :: .row b4 1 [.ptr w12 0 5] :: .row w12 5 [iv (y12_2), v_c_Book_Gatherings, v_c_Items, y12_3.v, w12_2] :: ownL true w12_2 encI y12_4 :: .row b1 3 [iv (c_Book_Signed), v_c_Book_Gatherings, v_c_Items] :: C) h
   ·rfl
   ·rfl
   ·rfl
   ·exact (pk [0,0,0,0,0,1,4] rfl)
   ·exact tr_yields (List.mem_of_getElem? (i := 0) rfl) (List.mem_of_getElem? (i := 2) rfl) (Rdl.mono h_c_Items M5) hkR1
   ·rintro l1 d ⟨best_Leaves, z, best_Lost, best_Strange, best_Twice, best_Moved, first, best_Pieces, best_All⟩ ⟨v28, v23, v19, v16, v14⟩ t vs G F1 ans hmem harg hD hG h;unfold P_c_Faults_L1 at h;dsimp only at h;obtain ⟨v_t, rfl, rfl⟩ := harg
    have h_t : Rdl F1 encI v_t t := .inr ⟨false, hG _ (by simp)⟩
    have hCF : ∀ x ∈ C, x ∈ F1 := fun x hx => hD x (memS M4 x hx)
    replace h_c_Book_Gatherings := Rdl.mono h_c_Book_Gatherings hCF;replace h_c_Items := Rdl.mono h_c_Items hCF
    have hu1_t10 : Rdl F1 encI w12_2 y12_4 := .inr ⟨true, (hD _ (List.mem_of_getElem? (i := 3) rfl))⟩
    have hu1_t9 : Thing.row w12 5 [iv (y12_2), v_c_Book_Gatherings, v_c_Items, y12_3.v, w12_2] ∈ F1 := (hD _ (List.mem_of_getElem? (i := 2) rfl))
    have hu1_t1 : Thing.row b1 3 [iv (c_Book_Signed), v_c_Book_Gatherings, v_c_Items] ∈ F1 := (hD _ (List.mem_of_getElem? (i := 4) rfl))
    have hu1_t13 : Thing.row b1_2 1 [.ptr w12 0 5] ∈ F1 := (hD _ (List.mem_of_getElem? (i := 0) rfl))
    have hu1_t11 : Thing.row b4 1 [.ptr w12 0 5] ∈ F1 := (hD _ (List.mem_of_getElem? (i := 1) rfl));refine ⟨_, rfl, fun LR1 LB1 hLB1 => ?_⟩;refine T.things (hs' := LR1 :: ownL z v28 encI best_Leaves :: ownL true v23 encI best_Lost :: ownL true v19 encI best_Strange :: ownL true v16 encI best_Twice :: ownL true v14 encI best_Moved :: .row b7 1 [bv first] :: .row b2 7 [v28, v23, iv (best_Pieces), v19, v16, v14, iv (best_All)] :: F1) rfl (zT rfl (zA R4 (zN ?_)));refine ⟨rfl, 0, rfl, ?_⟩;refine T.things (hs' := LB1 :: ownL z v28 encI best_Leaves :: ownL true v23 encI best_Lost :: ownL true v19 encI best_Strange :: ownL true v16 encI best_Twice :: ownL true v14 encI best_Moved :: .row b7 1 [bv first] :: .row b2 7 [v28, v23, iv (best_Pieces), v19, v16, v14, iv (best_All)] :: F1) rfl (zB (zU rfl (zV R3 (Val.load_rowM hu1_t11 M8 ⟨_, rfl, rfl⟩ rfl rfl rfl) (zM R4 ?_))));obtain ⟨⟨y26, y26_2, y26_3, y26_4, y26_5, y26_6, y26_7⟩, hr26, h⟩ := andx_some h;dsimp only at h;refine TO.callT (first := []) (cap := []) (vs := [.ptr w12 0 5, v_t]) rfl rfl rfl rfl rfl rfl (orcN rfl) (tf_c_faults aD (Rdl.mono h_c_Book_Gatherings M8) (Rdl.mono h_c_Items M8) (Rdl.mono (Rdl.gs (C := F1) y12_3) M8) (Rdl.mono hu1_t10 M8) (M8 _ hu1_t9) (Rdl.mono h_t M8) hr26) ?_;rintro ⟨w26, w26_2, w26_3, w26_4, w26_5⟩;refine zG (_::_::_::_::_::_::_::_::_::_::_::_::_::F1) rfl (zJ 7 [_,_,_,_,_,_,_] R7 (fun b9=>TO.fact (own_cellS (p := 1) rfl) (fun hot44=>TO.fact (own_cellS (p := 2) rfl) (fun hot45=>TO.fact (own_cellS (p := 3) rfl) (fun hot46=>TO.fact (own_cellS (p := 4) rfl) (fun hot47=>TO.fact (own_cellS (p := 5) rfl) (fun hot48=>TO.eff0 rfl rfl (Eff.store_row (p := 0) (cv := [_, _, _, _, _, _, _]) (cells' := [_, _, _, _, _, _, _]) rfl rfl rfl rfl rfl rfl rfl rfl (by first | rfl | (simp [GS.one, hot44.2, hot45.2, hot46.2, hot47.2, hot48.2]; done) | (simp [GS.one, hot44.2, hot45.2, hot46.2, hot47.2, hot48.2]; (repeat' apply And.intro) <;> rfl)) (by decide) rfl) ?_)))))));rintro _ rfl;refine zG (_::_::_::_::_::_::_::_::_::_::_::_::_::_::F1) rfl (zN ?_)
    show T _ _ _ _ _ _;apply T.join (r := ans) (W := Unit) (fun j w => ⟨[], [(2, .ptr b2 0 7), (7, .ptr b7 0 1), (8, v_t), (9, .ptr b9 0 7)], .row b9 7 [w26, w26_2, iv (y26_3), w26_3, w26_4, w26_5, iv (y26_7)] :: ownL true w26 encI y26 :: ownL true w26_2 encI y26_2 :: ownL true w26_3 encI y26_4 :: ownL true w26_4 encI y26_5 :: ownL true w26_5 encI y26_6 :: LB1 :: ownL z v28 encI best_Leaves :: ownL true v23 encI best_Lost :: ownL true v19 encI best_Strange :: ownL true v16 encI best_Twice :: ownL true v14 encI best_Moved :: .row b7 1 [bv j] :: .row b2 7 [v28, v23, iv (best_Pieces), v19, v16, v14, iv (best_All)] :: F1⟩) h
    ·intro j h
     show T _ _ _ _ _ _;apply T.joinA (r := j) (W := Unit) (fun j w => ⟨[], [(2, .ptr b2 0 7), (7, .ptr b7 0 1), (8, v_t), (9, .ptr b9 0 7), (35, bv j.1)], .row b9 7 [w26, w26_2, iv (y26_3), w26_3, w26_4, w26_5, iv (y26_7)] :: ownL true w26 encI y26 :: ownL true w26_2 encI y26_2 :: ownL true w26_3 encI y26_4 :: ownL true w26_4 encI y26_5 :: ownL true w26_5 encI y26_6 :: LB1 :: ownL z v28 encI best_Leaves :: ownL true v23 encI best_Lost :: ownL true v19 encI best_Strange :: ownL true v16 encI best_Twice :: ownL true v14 encI best_Moved :: .row b7 1 [bv j.2] :: .row b2 7 [v28, v23, iv (best_Pieces), v19, v16, v14, iv (best_All)] :: F1⟩) h
     ·intro j h;refine zT rfl (zL 12 R3 R6 (zV R3 (Val.not rfl) (zM R4 ?_)));obtain ⟨rfl, h⟩ | ⟨rfl, h⟩ := zZ h
      ·refine zO R3 (zO R3 (zO R3 (zO R3 (zO R3 (zP R6 (zN ?_))))));cases h;exact ⟨rfl, (), (sb .refl)⟩
      refine zF 6 R6 (zL 0 R3 R6 (zF 6 R6 (zL 13 R3 R6 ?_)));obtain ⟨c34, hc34⟩ := zY (y26_7 ≥ best_All);refine zV R3 (Val.geq hc34 rfl rfl) (zP R6 (zN ?_));subst hc34;cases h;exact ⟨rfl, (), (sb .refl)⟩
     ·rintro ⟨x35, first_2⟩ _ h;dsimp only at h;dsimp only;obtain ⟨rfl, h⟩ | ⟨rfl, h⟩ := zZ h
      ·refine zC rfl (zE ?_);cases h;exact ⟨ex_ne, ⟨rfl, (v28, v23, v19, v16, v14), (pk [6,6,6,6,6,6,6,6,98,98,98,98,98,98] rfl)⟩⟩
      refine zD rfl (zK ?_);cases h;exact ⟨rfl, (), (sb .refl)⟩
    ·rintro first_2 _ h;refine zU rfl (zV R3 (vW 0 [_,_,_,_,_,_,_] R5 R4) (TO.fact (own_cellS (p := 1) rfl) (fun hot44=>TO.fact (own_cellS (p := 2) rfl) (fun hot45=>TO.fact (own_cellS (p := 3) rfl) (fun hot46=>TO.fact (own_cellS (p := 4) rfl) (fun hot47=>TO.fact (own_cellS (p := 5) rfl) (fun hot48=>TO.eff0 rfl rfl (Eff.store_row (p := 13) (cv := [_, _, _, _, _, _, _]) (cells' := [_, _, _, _, _, _, _]) rfl rfl rfl rfl rfl rfl rfl rfl (by first | rfl | (simp [GS.one, hot44.2, hot45.2, hot46.2, hot47.2, hot48.2]; done) | (simp [GS.one, hot44.2, hot45.2, hot46.2, hot47.2, hot48.2]; (repeat' apply And.intro) <;> rfl)) (by decide) rfl) ?_)))))));rintro _ rfl;refine zG (_::_::_::_::_::_::_::_::_::_::_::_::_::_::F1) rfl (TO.eff0 rfl rfl (Eff.store_row (p := 12) (cv := [_]) (cells' := [_]) rfl rfl rfl rfl rfl rfl rfl rfl aG (by decide) rfl) ?_);rintro _ rfl;refine zG (_::_::_::_::_::_::_::_::_::_::_::_::_::_::F1) rfl (zN (zU rfl (zM R4 (zV R3 (Val.len_l h_t (memS (memS (memS (memS (memS (memS M8)))))) rfl rfl) ?_))));obtain ⟨hk39, h⟩ := chk_some h;refine TO.makeE (en := encI) (0) (b := 8) rfl rfl rfl ⟨rfl, rfl⟩ rfl rfl rfl rfl rfl hk39 (by decide) (fun v39=>zF 0 R6 (TO.fact (own_cellS (p := 0) rfl) (fun hot50=>TO.eff0 rfl rfl (Eff.store_row (p := 14) (cv := [_]) (cells' := [_, _, _, _, _, _, _]) rfl rfl rfl rfl rfl hot50.1 rfl rfl (by first | rfl | (simp [GS.one, hot50.2]; done)) (by decide) rfl) ?_)));rintro _ rfl;refine zG (_::_::_::_::_::_::_::_::_::_::_::_::_::_::_::F1) rfl (zN (zT rfl (zF 0 R6 (zL 14 R3 R6 (zM R4 ?_)))));obtain ⟨hkcp, h⟩ := chk_some h;refine TO.eff rfl rfl rfl (Eff.copy_l (en := encI) (l := _) (p := 0) ⟨rfl, rfl⟩ (by decide) rfl rfl h_t (memS (memS (memS (memS (memS (memS (memS M8))))))) rfl rfl (flat_ones _) hkcp) ?_;rintro _ _ ⟨rfl, rfl⟩;refine zG (_::_::_::_::_::_::_::_::_::_::_::_::_::_::_::F1) rfl (zN ?_);cases h;exact ⟨rfl, (v39, w26_2, w26_3, w26_4, w26_5), (pk [7,0,2,2,2,2,7,7,98,98,98,98,98,98,98] rfl)⟩
   ·rintro d ⟨best_Leaves, z, best_Lost, best_Strange, best_Twice, best_Moved, first, best_Pieces, best_All⟩ ⟨v28, v23, v19, v16, v14⟩ h;dsimp only at h;cases h;exact ⟨rfl, (d, v28, v23, v19, v16, v14), (sb (pk [0,0,0,0,0,0,0,0,1,1,1,1,98] rfl))⟩
  ·rintro ⟨best_Leaves, z, best_Lost, best_Strange, best_Twice, best_Moved, first, best_Pieces, best_All⟩ ⟨iddfr1, v28, v23, v19, v16, v14⟩ h;dsimp only at h;dsimp only;refine zU rfl (zV R3 (vW 7 [_,_,_,_,_,_,_] R5 R4) (TO.fact (own_cellS (p := 1) rfl) (fun hot28=>TO.fact (own_cellS (p := 2) rfl) (fun hot23=>TO.fact (own_cellS (p := 3) rfl) (fun hot19=>TO.fact (own_cellS (p := 4) rfl) (fun hot16=>TO.fact (own_cellS (p := 5) rfl) (fun hot14=>TO.eff0 rfl rfl (Eff.store_row (p := 7) (cv := [_, _, _, _, _, _, _]) (cells' := [_, _, _, _, _, _, _]) rfl rfl rfl rfl rfl rfl rfl rfl (by first | rfl | (simp [GS.one, hot28.2, hot23.2, hot19.2, hot16.2, hot14.2]; done) | (simp [GS.one, hot28.2, hot23.2, hot19.2, hot16.2, hot14.2]; (repeat' apply And.intro) <;> rfl)) (by decide) rfl) ?_)))))));rintro _ rfl;refine zG (_::_::_::_::_::_::_::_::_::_::_::_::C) rfl (zA R4 (zN (zR ?_)));cases h;exact ⟨rfl, _, ⟨0, rfl, rfl⟩, [_, _], ⟨⟨_, rfl, LoadR.rows (p := 6) (c := [_, _, _, _, _, _, _]) rfl ⟨⟨_, rfl, rfl⟩, rfl, by decide⟩ rfl rfl rfl⟩, ⟨rfl, trivial⟩⟩, ⟨(v28, v23, v19, v16, v14), rfl, (pk [0,0,0,0,0,98,98,98,98,98,98] rfl)⟩⟩
theorem w_c_Faults (c_Book_Signed : Int) (c_Book_Gatherings : GS encG) (c_Items : GS encIt) (r : (List Int) × Bool × (List Int) × Bool × Int × (List Int) × Bool × (List Int) × Bool × (List Int) × Bool × Int × Int) (h : P_c_Faults c_Book_Signed c_Book_Gatherings.l c_Items.l = some r) : Comes (EL 5) 23 [.agg [iv (c_Book_Signed), c_Book_Gatherings.v, c_Items.v]] (.tuple [.agg [(GSo r.2.1 encI r.1).v, (GSo r.2.2.2.1 encI r.2.2.1).v, iv r.2.2.2.2.1, (GSo r.2.2.2.2.2.2.1 encI r.2.2.2.2.2.1).v, (GSo r.2.2.2.2.2.2.2.2.1 encI r.2.2.2.2.2.2.2.1).v, (GSo r.2.2.2.2.2.2.2.2.2.2.1 encI r.2.2.2.2.2.2.2.2.2.1).v, iv r.2.2.2.2.2.2.2.2.2.2.2.1], iv r.2.2.2.2.2.2.2.2.2.2.2.2]) :=
 TF.run (tf_c_Faults (Nat.le_refl _) (RdT.gs c_Book_Gatherings) (RdT.gs c_Items) h) fun w => (.tuple (.cons (.agg (.cons (.ownL (en := encI) (p := 0) rfl (.lits encI_lits)) (.cons (.ownL (en := encI) (p := 1) rfl (.lits encI_lits)) (.cons .lit (.cons (.ownL (en := encI) (p := 2) rfl (.lits encI_lits)) (.cons (.ownL (en := encI) (p := 3) rfl (.lits encI_lits)) (.cons (.ownL (en := encI) (p := 4) rfl (.lits encI_lits)) (.cons .lit .nil)))))))) (.cons .lit .nil)))
end Go.Am.YthckcbfijdambaaGreat
end
section
namespace Go.Am
set_option linter.unusedVariables false
end Go.Am
end
section
namespace Go.Am.YthckcbfijdambaaGreat
open Go.Am Go.RowKit
set_option linter.unusedVariables false
set_option linter.unusedSimpArgs false
end Go.Am.YthckcbfijdambaaGreat
end
section
namespace Go.Am
set_option linter.unusedVariables false
noncomputable def P_r4_Check_L1 (c_Items : List Item) (all33 : List Leaf) : Int → Option (Stp Int (Ex Unit (Int × Int × Int))) := fun i =>
  if i < (c_Items.length : Int) then
    el c_Items i fun a49 =>
    andx (P_r4_item a49.could.l (all33.length : Int)) fun y52 =>
      if ¬ y52 = 0 then
        some (Stp.dn (Ex.rt (2, i, y52)))
      else
        chk (I64 (i + 1)) (
          some (Stp.ag (i + 1)))
  else
    some (Stp.dn (Ex.nx ()))
noncomputable def P_r4_Check_L2 (c_Items : List Item) : (Int × Int) → Option (Stp (Int × Int) (Ex Unit (Int × Int × Int))) := fun (doubts, i) =>
  if i < (c_Items.length : Int) then
    seqx (
      andx (
        el c_Items i fun a67 =>
        if (a67.could.l.length : Int) > 1 then
          chk (I64 (doubts + 1)) (
            some (doubts + 1))
        else
          some doubts) fun doubts_2 =>
        if doubts_2 > 3 then
          some (Ex.rt (Stp.dn (Ex.rt (3, i, 3))))
        else
          some (Ex.nx doubts_2)) fun doubts_2 =>
      chk (I64 (i + 1)) (
        some (Stp.ag (doubts_2, (i + 1))))
  else
    some (Stp.dn (Ex.nx ()))
noncomputable def P_r4_Check (c_Book_Signed : Int) (c_Book_Gatherings : List Gat) (c_Items : List Item) : Option (Int × Int × Int) :=
  andx (P_r1_Check c_Book_Signed c_Book_Gatherings) fun (part15, at_15, e15) =>
    andx (
      andx (
        if e15 = 0 then
          andx (P_r1_All c_Book_Signed c_Book_Gatherings) fun all24 =>
            some (decide ((all24.length : Int) > 120))
        else
          some false) fun x27 =>
        if x27 = true then
          some 3
        else
          some e15) fun e =>
      if ¬ e = 0 then
        some (1, 0, e)
      else
        andx (P_r1_All c_Book_Signed c_Book_Gatherings) fun all33 =>
          if (c_Items.length : Int) > 120 then
            some (2, 0, 3)
          else
            seqx (
              iter (P_r4_Check_L1 c_Items all33) 0) fun _ =>
              seqx (
                iter (P_r4_Check_L2 c_Items) (0, 0)) fun _ =>
                some (0, 0, 0)
noncomputable def P_r4_All_L3 (l9 : List (List Int)) (k_ : Int) : (Int × (List (List Int))) → Option (Stp (Int × (List (List Int))) (List (List Int))) := fun (n, next_2) =>
  if n < ([(-1)].length : Int) then
    el l9 k_ fun a43 =>
    el [(-1)] n fun a48 =>
    chk (([] : List Int).length + a43.length < 1000000000) (
      chk ((([] : List Int) ++ a43).length + [a48].length < 1000000000) (
        chk (next_2.length + [(([] : List Int) ++ a43) ++ [a48]].length < 1000000000) (
          chk (I64 (n + 1)) (
            some (Stp.ag ((n + 1), next_2 ++ [(([] : List Int) ++ a43) ++ [a48]]))))))
  else
    some (Stp.dn next_2)
noncomputable def P_r4_All_L2 (l9 : List (List Int)) : (Int × (List (List Int))) → Option (Stp (Int × (List (List Int))) (List (List Int))) := fun (k_, next) =>
  if k_ < (l9.length : Int) then
    andx (
      iter (P_r4_All_L3 l9 k_) (0, next)) fun next_2 =>
      chk (I64 (k_ + 1)) (
        some (Stp.ag ((k_ + 1), next_2)))
  else
    some (Stp.dn next)
noncomputable def P_r4_All_L5 (l9 : List (List Int)) (a20 : Item) (k_ : Int) : (Int × (List (List Int))) → Option (Stp (Int × (List (List Int))) (List (List Int))) := fun (n, next_2) =>
  if n < (a20.could.l.length : Int) then
    el l9 k_ fun a43 =>
    el a20.could.l n fun a48 =>
    chk (([] : List Int).length + a43.length < 1000000000) (
      chk ((([] : List Int) ++ a43).length + [a48].length < 1000000000) (
        chk (next_2.length + [(([] : List Int) ++ a43) ++ [a48]].length < 1000000000) (
          chk (I64 (n + 1)) (
            some (Stp.ag ((n + 1), next_2 ++ [(([] : List Int) ++ a43) ++ [a48]]))))))
  else
    some (Stp.dn next_2)
noncomputable def P_r4_All_L4 (l9 : List (List Int)) (a20 : Item) : (Int × (List (List Int))) → Option (Stp (Int × (List (List Int))) (List (List Int))) := fun (k_, next) =>
  if k_ < (l9.length : Int) then
    andx (
      iter (P_r4_All_L5 l9 a20 k_) (0, next)) fun next_2 =>
      chk (I64 (k_ + 1)) (
        some (Stp.ag ((k_ + 1), next_2)))
  else
    some (Stp.dn next)
noncomputable def P_r4_All_L1 (c_Items : List Item) : (Int × (List (List Int)) × Bool) → Option (Stp (Int × (List (List Int)) × Bool) ((List (List Int)) × Bool)) := fun (i, l9, z) =>
  if i < (c_Items.length : Int) then
    andx (
      el c_Items i fun a20 =>
      if (a20.could.l.length : Int) = 0 then
        andx (
          iter (P_r4_All_L2 l9) (0, ([] : List (List Int)))) fun next =>
          some next
      else
        andx (
          iter (P_r4_All_L4 l9 a20) (0, ([] : List (List Int)))) fun next =>
          some next) fun next =>
      chk (I64 (i + 1)) (
        some (Stp.ag ((i + 1), next, true)))
  else
    some (Stp.dn (l9, z))
noncomputable def P_r4_All (c_Book_Signed : Int) (c_Book_Gatherings : List Gat) (c_Items : List Item) : Option ((List (List Int)) × Bool) :=
  andx (
    iter (P_r4_All_L1 c_Items) (0, [([] : List Int)], false)) fun (l9, z) =>
    some (l9, z)
end Go.Am
end
section
namespace Go.Am.YthckcbfijdambaaGreat
open Go.Am Go.RowKit
set_option linter.unusedVariables false
set_option linter.unusedSimpArgs false
set_option maxRecDepth 10000 in
theorem tf_r4_Check {k : Nat} (hk : 4 ≤ k) {C : List Thing} {c_Book_Signed : Int} {v_c_Book_Gatherings : AV} {c_Book_Gatherings : List Gat} {v_c_Items : AV} {c_Items : List Item} (ht_c_Book_Gatherings : RdT encG v_c_Book_Gatherings c_Book_Gatherings) (ht_c_Items : RdT encIt v_c_Items c_Items) {r : Int × Int × Int} (h : P_r4_Check c_Book_Signed c_Book_Gatherings c_Items = some r) :
  TF (EL k) 29 [.agg [iv (c_Book_Signed), v_c_Book_Gatherings, v_c_Items]] C (RepF (fun (w : Unit) => .tuple [iv r.1, iv r.2.1, iv r.2.2]) (fun (w : Unit) => C)) := by
 unfold P_r4_Check at h
 have h_c_Book_Gatherings : Rdl C encG v_c_Book_Gatherings c_Book_Gatherings := RdT.rdl ht_c_Book_Gatherings
 have h_c_Items : Rdl C encIt v_c_Items c_Items := RdT.rdl ht_c_Items;refine TF.enter (fn := Go.Proofs.Tryz.f29) rfl rfl rfl rfl rfl (zU rfl (zQ 3 [_,_,_] R7 (fun b1=>zA R4 (zA R4 (zA R4 (zN (zU rfl (zF 0 R6 (zV R3 (vW 0 [_,_] R5 R4) ?_)))))))));obtain ⟨⟨part15, at_15, e15⟩, hr15, h⟩ := andx_some h;dsimp only at h;obtain ⟨g, hgg, hrg⟩ := Rdl.reif (hs := .row b1 3 [iv (c_Book_Signed), v_c_Book_Gatherings, v_c_Items] :: C) h_c_Book_Gatherings M1 (ReifL.flat encG_tr);refine TO.call rfl rfl rfl rfl rfl (orcL rfl aD) (.cons (.agg (.cons .lit (.cons (hrg _) .nil))) .nil) (sem_of (w_r1_Check c_Book_Signed g _ (by try rw [hgg]; exact hr15))) (zM R4 (zX R5 (zX R5 (zX R5 (zA R4 (zA R4 (zA R4 (zN ?_))))))))
 show T _ _ _ _ _ _;apply T.joinA (r := r) (W := Unit) (fun j w => ⟨[], [(1, .ptr b1 0 3), (7, iv (j))], .row b1 3 [iv (c_Book_Signed), v_c_Book_Gatherings, v_c_Items] :: C⟩) h
 ·intro j h
  show T _ _ _ _ _ _;apply T.joinA (r := j) (W := Unit) (fun j w => ⟨[], [(1, .ptr b1 0 3), (7, iv (e15)), (27, bv j)], .row b1 3 [iv (c_Book_Signed), v_c_Book_Gatherings, v_c_Items] :: C⟩) h
  ·intro j h;refine zT rfl (zM R4 ?_);obtain ⟨c20, hc20⟩ := zY (e15 = 0);refine zV R3 (Val.eql hc20 rfl rfl) (zM R4 ?_);obtain ⟨rfl, hc20, h⟩ | ⟨rfl, hc20, h⟩ := zI hc20 h
   ·refine zF 0 R6 (zV R3 (vW 0 [_,_] R5 R4) ?_);obtain ⟨all24, hr24, h⟩ := andx_some h;obtain ⟨g_2, hgg_2, hrg_2⟩ := Rdl.reif (hs := .row b1 3 [iv (c_Book_Signed), v_c_Book_Gatherings, v_c_Items] :: C) h_c_Book_Gatherings M1 (ReifL.flat encG_tr);refine TO.call rfl rfl rfl rfl rfl (orcL rfl aD) (.cons (.agg (.cons .lit (.cons (hrg_2 _) .nil))) .nil) (sem_of (w_r1_All c_Book_Signed g_2 _ (by try rw [hgg_2]; exact hr24))) (zV R3 (Val.len_gs rfl rfl) ?_);obtain ⟨c26, hc26⟩ := zY ((all24.length : Int) > 120);refine zV R3 (Val.gtr hc26 rfl rfl) (zP R6 (zN ?_));subst hc26;cases h;exact ⟨rfl, (), (sb .refl)⟩
   refine zO R3 (zO R3 (zO R3 (zO R3 (zO R3 (zP R6 (zN ?_))))));cases h;exact ⟨rfl, (), (sb .refl)⟩
  ·rintro x27 _ h;obtain ⟨rfl, h⟩ | ⟨rfl, h⟩ := zZ h
   ·refine zC rfl (zT rfl (zA R4 (zN ?_)));cases h;exact ⟨rfl, (), (sb .refl)⟩
   refine zD rfl (zK ?_);cases h;exact ⟨rfl, (), (sb .refl)⟩
 ·rintro e _ h;refine zS (zU rfl (zM R4 ?_));obtain ⟨c29, hc29⟩ := zY (¬ e = 0);refine zV R3 (Val.neq hc29 rfl rfl) (zN ?_);obtain ⟨rfl, hc29, h⟩ | ⟨rfl, hc29, h⟩ := zI hc29 h
  ·refine zC rfl (zU rfl (zM R4 (zA R4 (zA R4 (zA R4 (zN (zR ?_)))))));cases h;exact ⟨rfl, _, rfl, ⟨(), rfl, (pk [98] rfl)⟩⟩
  refine zD rfl (zK (zU rfl (zF 0 R6 (zV R3 (vW 0 [_,_] R5 R4) ?_))));obtain ⟨all33, hr33, h⟩ := andx_some h;obtain ⟨g_2, hgg_2, hrg_2⟩ := Rdl.reif (hs := .row b1 3 [iv (c_Book_Signed), v_c_Book_Gatherings, v_c_Items] :: C) h_c_Book_Gatherings M1 (ReifL.flat encG_tr);refine TO.call rfl rfl rfl rfl rfl (orcL rfl aD) (.cons (.agg (.cons .lit (.cons (hrg_2 _) .nil))) .nil) (sem_of (w_r1_All c_Book_Signed g_2 _ (by try rw [hgg_2]; exact hr33))) (zV R3 (Val.len_gs rfl rfl) (zA R4 (zN (zS (zU rfl (zF 2 R6 (zL 0 R3 R6 (zV R3 (Val.len_l h_c_Items M1 rfl rfl) ?_))))))));obtain ⟨c38, hc38⟩ := zY ((c_Items.length : Int) > 120);refine zV R3 (Val.gtr hc38 rfl rfl) (zN ?_);obtain ⟨rfl, hc38, h⟩ | ⟨rfl, hc38, h⟩ := zI hc38 h
  ·refine zC rfl (zU rfl (zA R4 (zA R4 (zA R4 (zN (zR ?_))))));cases h;exact ⟨rfl, _, rfl, ⟨(), rfl, (pk [98] rfl)⟩⟩
  refine zD rfl (zK ?_)
  show T _ _ _ _ _ _;apply T.join (r := r) (W := Unit) (fun j w => ⟨[], [(1, .ptr b1 0 3)], .row b1 3 [iv (c_Book_Signed), v_c_Book_Gatherings, v_c_Items] :: C⟩) h
  ·intro j h;refine zU rfl (zA R4 (zN (zB ?_)))
   show T _ _ _ _ _ _;apply T.iter (r := j) (W := Unit) (fun j w => ⟨[], [(1, .ptr b1 0 3), (8, iv ((all33.length : Int))), (9, iv (j))], .row b1 3 [iv (c_Book_Signed), v_c_Book_Gatherings, v_c_Items] :: C⟩) (w0 := ()) h
   ·exact (sb .refl)
   rintro i _ a h;unfold P_r4_Check_L1 at h;refine zS (zU rfl (zM R4 (zF 2 R6 (zL 0 R3 R6 (zV R3 (Val.len_l h_c_Items M1 rfl rfl) ?_)))));obtain ⟨c43, hc43⟩ := zY (i < (c_Items.length : Int));refine zV R3 (Val.lss hc43 rfl rfl) (zN ?_);obtain ⟨rfl, hc43, h⟩ | ⟨rfl, hc43, h⟩ := zI hc43 h
   ·refine zC rfl (zK (zS (zB (zU rfl (zF 2 R6 (zL 0 R3 R6 (zM R4 ?_)))))));obtain ⟨a49, hia49, ea49, h⟩ := el_some h;refine TO.fact (rdl_at h_c_Items M1 hia49 ea49) (fun hp=>?_);obtain ⟨pa49, hpa49, hva49⟩ := hp;refine zV R3 (hva49 ⟨rfl, rfl⟩ rfl rfl) (zV R3 (Val.load_es (c := [_]) hpa49 M1 ⟨⟨_, rfl, rfl⟩, rfl, by decide⟩ rfl rfl rfl) (zM R4 ?_));obtain ⟨y52, hr52, h⟩ := andx_some h;refine TO.callT (first := []) (cap := []) (vs := [.agg [a49.could.v], iv ((all33.length : Int))]) rfl rfl rfl rfl rfl rfl (orcN rfl) (tf_r4_item aD (Rdl.mono (Rdl.gs (C := C) a49.could) M1) hr52) ?_;rintro _;refine zG (_::C) rfl (zA R4 (zN (zU rfl (zM R4 ?_))));obtain ⟨c54, hc54⟩ := zY (¬ y52 = 0);refine zV R3 (Val.neq hc54 rfl rfl) (zN ?_);obtain ⟨rfl, hc54, h⟩ | ⟨rfl, hc54, h⟩ := zI hc54 h
    ·refine zC rfl (zU rfl (zM R4 (zM R4 (zA R4 (zA R4 (zA R4 (zN (zR ?_))))))));cases h;exact ⟨ret_ne, ⟨ret_ne, ⟨rfl, _, rfl, ⟨(), rfl, (pk [98] rfl)⟩⟩⟩⟩
    refine zD rfl (zK (zT rfl (zM R4 ?_)));obtain ⟨hk45, h⟩ := chk_some h;refine zV R3 (Val.add rfl rfl hk45) (zA R4 (zN ?_));cases h;exact ⟨rfl, (), (sb .refl)⟩
   refine zD rfl (zE ?_);cases h;exact ⟨ex_ne, ⟨rfl, (), (sb .refl)⟩⟩
  ·rintro _ _ h;refine zU rfl (zA R4 (zN ?_))
   show T _ _ _ _ _ _;apply T.join (r := r) (W := Unit) (fun j w => ⟨[], [], .row b1 3 [iv (c_Book_Signed), v_c_Book_Gatherings, v_c_Items] :: C⟩) h
   ·intro j h;refine zU rfl (zA R4 (zN (zB ?_)))
    show T _ _ _ _ _ _;apply T.iter (r := j) (W := Unit) (fun j w => ⟨[], [(1, .ptr b1 0 3), (10, iv (j.1)), (11, iv (j.2))], .row b1 3 [iv (c_Book_Signed), v_c_Book_Gatherings, v_c_Items] :: C⟩) (w0 := ()) h
    ·exact (sb .refl)
    rintro ⟨doubts, i⟩ _ a h;unfold P_r4_Check_L2 at h;dsimp only at h;dsimp only;refine zS (zU rfl (zM R4 (zF 2 R6 (zL 0 R3 R6 (zV R3 (Val.len_l h_c_Items M1 rfl rfl) ?_)))));obtain ⟨c61, hc61⟩ := zY (i < (c_Items.length : Int));refine zV R3 (Val.lss hc61 rfl rfl) (zN ?_);obtain ⟨rfl, hc61, h⟩ | ⟨rfl, hc61, h⟩ := zI hc61 h
    ·refine zC rfl (zK ?_)
     show T _ _ _ _ _ _;apply T.join (r := a) (W := Unit) (fun j w => ⟨[], [(1, .ptr b1 0 3), (10, iv (j)), (11, iv (i))], .row b1 3 [iv (c_Book_Signed), v_c_Book_Gatherings, v_c_Items] :: C⟩) h
     ·intro j h;refine zB ?_
      show T _ _ _ _ _ _;apply T.joinA (r := j) (W := Unit) (fun j w => ⟨[], [(1, .ptr b1 0 3), (10, iv (j)), (11, iv (i))], .row b1 3 [iv (c_Book_Signed), v_c_Book_Gatherings, v_c_Items] :: C⟩) h
      ·intro j h;refine zU rfl (zF 2 R6 (zL 0 R3 R6 (zM R4 ?_)));obtain ⟨a67, hia67, ea67, h⟩ := el_some h;refine TO.fact (rdl_at h_c_Items M1 hia67 ea67) (fun hp=>?_);obtain ⟨pa67, hpa67, hva67⟩ := hp;refine zV R3 (hva67 ⟨rfl, rfl⟩ rfl rfl) (zV R3 (Val.faddr_e (fo := 0) hpa67 rfl rfl rfl) (zV R3 (Val.load_e (PtE.add hpa67 (by decide)) M1 ⟨_, rfl, rfl⟩ rfl rfl) (zV R3 (Val.len_gs rfl rfl) ?_)));obtain ⟨c71, hc71⟩ := zY ((a67.could.l.length : Int) > 1);refine zV R3 (Val.gtr hc71 rfl rfl) (zN ?_);obtain ⟨rfl, hc71, h⟩ | ⟨rfl, hc71, h⟩ := zI hc71 h
       ·refine zC rfl (zT rfl (zM R4 ?_));obtain ⟨hk73, h⟩ := chk_some h;refine zV R3 (Val.add rfl rfl hk73) (zA R4 (zN ?_));cases h;exact ⟨rfl, (), (sb .refl)⟩
       refine zD rfl (zK ?_);cases h;exact ⟨rfl, (), (sb .refl)⟩
      ·rintro doubts_2 _ h;refine zU rfl (zM R4 ?_);obtain ⟨c75, hc75⟩ := zY (doubts_2 > 3);refine zV R3 (Val.gtr hc75 rfl rfl) (zN ?_);obtain ⟨rfl, hc75, h⟩ | ⟨rfl, hc75, h⟩ := zI hc75 h
       ·refine zC rfl (zU rfl (zM R4 (zA R4 (zA R4 (zA R4 (zN (zR ?_)))))));cases h;exact ⟨ret_ne, ⟨ret_ne, ⟨ret_ne, ⟨rfl, _, rfl, ⟨(), rfl, (pk [98] rfl)⟩⟩⟩⟩⟩
       refine zD rfl (zK ?_);cases h;exact ⟨rfl, (), (sb .refl)⟩
     ·rintro doubts_2 _ h;refine zT rfl (zM R4 ?_);obtain ⟨hk63, h⟩ := chk_some h;refine zV R3 (Val.add rfl rfl hk63) (zA R4 (zN ?_));cases h;exact ⟨rfl, (), (sb .refl)⟩
    refine zD rfl (zE ?_);cases h;exact ⟨ex_ne, ⟨rfl, (), (sb .refl)⟩⟩
   ·rintro _ _ h;refine zU rfl (zA R4 (zA R4 (zA R4 (zN (zR ?_)))));cases h;exact ⟨rfl, _, rfl, ⟨(), rfl, (pk [98] rfl)⟩⟩
theorem w_r4_Check (c_Book_Signed : Int) (c_Book_Gatherings : GS encG) (c_Items : GS encIt) (r : Int × Int × Int) (h : P_r4_Check c_Book_Signed c_Book_Gatherings.l c_Items.l = some r) : Comes (EL 4) 29 [.agg [iv (c_Book_Signed), c_Book_Gatherings.v, c_Items.v]] (.tuple [iv r.1, iv r.2.1, iv r.2.2]) :=
 TF.run (tf_r4_Check (Nat.le_refl _) (RdT.gs c_Book_Gatherings) (RdT.gs c_Items) h) fun w => (.tuple (.cons .lit (.cons .lit (.cons .lit .nil))))
set_option maxRecDepth 10000 in
theorem tf_r4_All {k : Nat} (hk : 0 ≤ k) {C : List Thing} {c_Book_Signed : Int} {v_c_Book_Gatherings : AV} {c_Book_Gatherings : List Gat} {v_c_Items : AV} {c_Items : List Item} (ht_c_Book_Gatherings : RdT encG v_c_Book_Gatherings c_Book_Gatherings) (ht_c_Items : RdT encIt v_c_Items c_Items) {r : (List (List Int)) × Bool} (h : P_r4_All c_Book_Signed c_Book_Gatherings c_Items = some r) :
  TF (EL k) 36 [.agg [iv (c_Book_Signed), v_c_Book_Gatherings, v_c_Items]] C (RepF (fun (w : AV × (List AV)) => w.1) (fun (w : AV × (List AV)) => nestH r.2 w.1 r.1 w.2 :: (seg encI w.2 r.1 ++ C))) := by
 unfold P_r4_All at h
 have h_c_Book_Gatherings : Rdl C encG v_c_Book_Gatherings c_Book_Gatherings := RdT.rdl ht_c_Book_Gatherings
 have h_c_Items : Rdl C encIt v_c_Items c_Items := RdT.rdl ht_c_Items;refine TF.enter (fn := Go.Proofs.Tryz.f36) rfl rfl rfl rfl rfl (zU rfl (zQ 3 [_,_,_] R7 (fun b1=>zA R4 (zN (zU rfl (TO.nilown (u := encI.u) (TO.fact (own_cellS (p := 0) rfl) (fun hot2=>TO.eff rfl rfl rfl (Eff.new (New.buildSlice (en := encAV) (l := [nilS]) (vs := [(_, _)]) (ws := [(_, [_])]) ⟨rfl, rfl⟩ rfl rfl rfl rfl (CellsL.cons hot2.1 CellsL.nil) rfl rfl)) ?_))))))));rintro _ _ ⟨v9_2, rfl, rfl⟩;refine TO.less (Less.rowOwn (en := encAV) (l := [nilS]) (p := 0) rfl) (zG (_::_::_::C) rfl (TO.less (Pk.less (Pk.pick (p := 0) rfl (Pk.pick (p := 1) rfl (Pk.pick (p := 0) rfl Pk.refl)))) (zG (_::_::(seg encI [nilS] [([] : List Int)] ++ C)) rfl (zA R4 (zN ?_)))))
 show T _ _ _ _ _ _;apply T.joinA (r := r) (W := AV × (List AV)) (fun j w => ⟨[], [(3, w.1)], nestH j.2 w.1 j.1 w.2 :: .row b1 3 [iv (c_Book_Signed), v_c_Book_Gatherings, v_c_Items] :: (seg encI w.2 j.1 ++ C)⟩) h
 ·intro j h;refine zU rfl (zA R4 (zN (zB ?_)))
  show T _ _ _ _ _ _;apply T.iter (r := j) (W := AV × (List AV)) (fun j w => ⟨[], [(1, .ptr b1 0 3), (3, w.1), (4, iv (j.1))], nestH j.2.2 w.1 j.2.1 w.2 :: .row b1 3 [iv (c_Book_Signed), v_c_Book_Gatherings, v_c_Items] :: (seg encI w.2 j.2.1 ++ C)⟩) (w0 := ((.slice v9_2 0 (List.flatMap encAV.f [nilS]).length true (List.length [nilS]) (List.length [nilS])), [nilS])) h
  ·exact (sb .refl)
  rintro ⟨i, l9, z⟩ ⟨vn4, wsn4⟩ a h;unfold P_r4_All_L1 at h;dsimp only at h;dsimp only;refine zS (zU rfl (zM R4 (zF 2 R6 (zL 1 R3 R6 (zV R3 (Val.len_l h_c_Items (memS (memS (memG mem0))) rfl rfl) ?_)))));obtain ⟨c14, hc14⟩ := zY (i < (c_Items.length : Int));refine zV R3 (Val.lss hc14 rfl rfl) (zN ?_);obtain ⟨rfl, hc14, h⟩ | ⟨rfl, hc14, h⟩ := zI hc14 h
  ·refine zC rfl (zK ?_)
   show T _ _ _ _ _ _;apply T.joinA (r := a) (W := AV × (List AV)) (fun j w => ⟨[], [(1, .ptr b1 0 3), (3, w.1), (4, iv (i))], nestH true w.1 j w.2 :: nestH z vn4 l9 wsn4 :: .row b1 3 [iv (c_Book_Signed), v_c_Book_Gatherings, v_c_Items] :: (seg encI w.2 j ++ (seg encI wsn4 l9 ++ C))⟩) h
   ·intro j h;refine zB (zU rfl (zF 2 R6 (zL 1 R3 R6 (zM R4 ?_))));obtain ⟨a20, hia20, ea20, h⟩ := el_some h;refine TO.fact (rdl_at h_c_Items (memS (memS (memG mem0))) hia20 ea20) (fun hp=>?_);obtain ⟨pa20, hpa20, hva20⟩ := hp;refine zV R3 (hva20 ⟨rfl, rfl⟩ rfl rfl) (zV R3 (Val.faddr_e (fo := 0) hpa20 rfl rfl rfl) (zV R3 (Val.load_e (PtE.add hpa20 (by decide)) (memS (memS (memG mem0))) ⟨_, rfl, rfl⟩ rfl rfl) (zA R4 (zN (zS (zU rfl (zM R4 (zV R3 (Val.len_gs rfl rfl) ?_))))))));obtain ⟨c25, hc25⟩ := zY ((a20.could.l.length : Int) = 0);refine zV R3 (Val.eql hc25 rfl rfl) (zN ?_);obtain ⟨rfl, hc25, h⟩ | ⟨rfl, hc25, h⟩ := zI hc25 h
    ·refine zC rfl (zT rfl (TO.build1 (en := encI) (a := (-1)) rfl rfl rfl ⟨rfl, rfl⟩ ⟨_, rfl, rfl⟩ (by decide) (by decide) rfl rfl (fun v26=>zA R4 (zN (zU rfl (zA R4 (zN ?_)))))))
     show T _ _ _ _ _ _;apply T.joinA (r := j) (W := AV × (List AV)) (fun j w => ⟨[], [(1, .ptr b1 0 3), (4, iv (i)), (6, w.1)], nestH true w.1 j w.2 :: ownL false v26 encI [(-1)] :: nestH z vn4 l9 wsn4 :: .row b1 3 [iv (c_Book_Signed), v_c_Book_Gatherings, v_c_Items] :: (seg encI w.2 j ++ (seg encI wsn4 l9 ++ C))⟩) h
     ·intro j h;refine zU rfl (zA R4 (zN (zB (T.nilown (u := 1) (T.things (hs' := nestH true nilS ([] : List (List Int)) [] :: ownL false v26 encI [(-1)] :: nestH z vn4 l9 wsn4 :: .row b1 3 [iv (c_Book_Signed), v_c_Book_Gatherings, v_c_Items] :: (seg encI [] ([] : List (List Int)) ++ (seg encI wsn4 l9 ++ C))) rfl ?_)))))
      show T _ _ _ _ _ _;apply T.iter (r := j) (W := AV × (List AV)) (fun j w => ⟨[], [(1, .ptr b1 0 3), (3, vn4), (4, iv (i)), (5, v26), (6, w.1), (7, iv (j.1))], nestH true w.1 j.2 w.2 :: ownL false v26 encI [(-1)] :: nestH z vn4 l9 wsn4 :: .row b1 3 [iv (c_Book_Signed), v_c_Book_Gatherings, v_c_Items] :: (seg encI w.2 j.2 ++ (seg encI wsn4 l9 ++ C))⟩) (w0 := (nilS, [])) h
      ·exact (sb .refl)
      rintro ⟨k_, next⟩ ⟨vn8, wsn8⟩ a h;unfold P_r4_All_L2 at h;dsimp only at h;dsimp only;refine zS (zU rfl (zM R4 (zM R4 (zV R3 (Val.len_nest (p := 2) rfl rfl rfl) ?_))));obtain ⟨c30, hc30⟩ := zY (k_ < (l9.length : Int));refine zV R3 (Val.lss hc30 rfl rfl) (zN ?_);obtain ⟨rfl, hc30, h⟩ | ⟨rfl, hc30, h⟩ := zI hc30 h
      ·refine zC rfl (zK ?_)
       show T _ _ _ _ _ _;apply T.joinA (r := a) (W := AV × (List AV)) (fun j w => ⟨[], [(1, .ptr b1 0 3), (3, vn4), (4, iv (i)), (5, v26), (6, w.1), (7, iv (k_))], nestH true w.1 j w.2 :: ownL false v26 encI [(-1)] :: nestH z vn4 l9 wsn4 :: .row b1 3 [iv (c_Book_Signed), v_c_Book_Gatherings, v_c_Items] :: (seg encI w.2 j ++ (seg encI wsn4 l9 ++ C))⟩) h
       ·intro j h;refine zB (zU rfl (zA R4 (zN (zB ?_))))
        show T _ _ _ _ _ _;apply T.iter (r := j) (W := AV × (List AV)) (fun j w => ⟨[], [(1, .ptr b1 0 3), (3, vn4), (4, iv (i)), (5, v26), (6, w.1), (7, iv (k_)), (8, iv (j.1))], nestH true w.1 j.2 w.2 :: ownL false v26 encI [(-1)] :: nestH z vn4 l9 wsn4 :: .row b1 3 [iv (c_Book_Signed), v_c_Book_Gatherings, v_c_Items] :: (seg encI w.2 j.2 ++ (seg encI wsn4 l9 ++ C))⟩) (w0 := (vn8, wsn8)) h
        ·exact (sb .refl)
        rintro ⟨n, next_2⟩ ⟨vn8_2, wsn8_2⟩ a h;unfold P_r4_All_L3 at h;dsimp only at h;dsimp only;refine zS (zU rfl (zM R4 (zM R4 (zV R3 (Val.len_own (p := 1) rfl rfl rfl) ?_))));obtain ⟨c36, hc36⟩ := zY (n < ([(-1)].length : Int));refine zV R3 (Val.lss hc36 rfl rfl) (zN ?_);obtain ⟨rfl, hc36, h⟩ | ⟨rfl, hc36, h⟩ := zI hc36 h
        ·refine zC rfl (zK (zS (zB (T.drawE (l1 := [0, 1, 2, 3, 4, 5, 7, 8, 9, 10, 11]) (l2 := [6, 12, 13, 14, 15]) (by kernel_rfl) (by kernel_rfl) (yL R4 (Val.move rfl) (TD1.floatN rfl rfl rfl rfl (New.buildSlice (en := encI) (l := ([] : List Int)) (vs := []) (ws := []) ⟨rfl, rfl⟩ rfl rfl rfl rfl CellsL.nil rfl rfl) (fun v40=>yL R4 (Val.move rfl) (yL R4 (Val.move rfl) ?_))))))));obtain ⟨a43, hia43, ea43, h⟩ := el_some h;refine TD1.fact (nest_at (en := encI) (p := 3) rfl hia43 ea43) (fun hp=>?_);obtain ⟨ida43, wa43, ata43, ewa43, hma43⟩ := hp;refine yL R4 (Val.iaddr_nest ata43 ⟨rfl, rfl⟩ rfl rfl hia43) (yR R4 (Val.load_nest (p := 3) rfl ata43 ⟨_, rfl, rfl⟩ rfl ewa43) ?_)
         have hna43 : Rdl (seg encI wsn8_2 next_2 ++ (seg encI wsn4 l9 ++ C)) encI wa43 a43 := .inr ⟨true, (List.mem_append_right _ (List.mem_append_left _ hma43))⟩;refine yL R4 (Val.move rfl) (yL R4 (Val.move rfl) ?_);obtain ⟨a48, hia48, ea48, h⟩ := el_some h;refine TD1.fact (own_at (en := encI) (p := 2) rfl hia48) (fun hp=>?_);obtain ⟨ida48, ata48⟩ := hp;refine yL R4 (Val.iaddr_at (en := encI) ata48 ⟨rfl, rfl⟩ rfl rfl hia48) (yR R4 (Val.load_ownL (en := encI) (p := 2) (j := 0) rfl ata48 ⟨_, rfl, rfl⟩ rfl ea48 rfl) (TD1.floatN rfl rfl rfl rfl (New.buildSlice (en := encI) (l := [a48]) (vs := [(_, _)]) (ws := [(_, [_])]) ⟨rfl, rfl⟩ rfl rfl rfl rfl (CellsL.cons rfl CellsL.nil) rfl rfl) (fun v50=>TD1.over (fun v => sameC_refl v) (all_cons (⟨_, rfl, (Val.load_ownL (en := encI) (p := 3) (j := 0) rfl ata48 ⟨_, rfl, rfl⟩ rfl ea48 rfl)⟩) (all_cons (⟨_, rfl, (Val.load_nest (p := 4) rfl ata43 ⟨_, rfl, rfl⟩ rfl ewa43)⟩) all_nil)) (TD2.less (Less.floatOwn (en := encI) (l := ([] : List Int)) (p := 1) rfl) (yG (_::_::_::_::_::_::(seg encI wsn8_2 next_2 ++ (seg encI wsn4 l9 ++ C))) rfl ?_)))));obtain ⟨hk45, h⟩ := chk_some h;refine TD2.heavy (fun v => sameC_refl v) rfl (by decide) rfl rfl (OpS.eff (Eff.append_l (b := 8) (en := encI) (l := ([] : List Int)) (p := 1) ⟨rfl, rfl, rfl, ⟨_, rfl, rfl⟩, by decide, by decide⟩ rfl rfl rfl hna43 M6 rfl rfl (flat_ones _) (by decide) hk45)) ?_;rintro v45 _ rfl;refine ⟨(all_cons (.inr ⟨_, rfl, (Val.load_ownL (en := encI) (p := 3) (j := 0) rfl ata48 ⟨_, rfl, rfl⟩ rfl ea48 rfl)⟩) (all_cons (.inl (by kernel_rfl)) all_nil)), (all_cons (.inr (by repeat first | exact List.mem_cons_self | apply List.mem_cons_of_mem)) (all_cons (.inl (by kernel_rfl)) all_nil)), ?_⟩;refine yG (_::_::_::_::_::_::(seg encI wsn8_2 next_2 ++ (seg encI wsn4 l9 ++ C))) rfl (TD2.less (Less.floatOwn (en := encI) (l := [a48]) (p := 0) rfl) (yG (_::_::_::_::_::_::(seg encI wsn8_2 next_2 ++ (seg encI wsn4 l9 ++ C))) rfl ?_));obtain ⟨hk51, h⟩ := chk_some h;refine TD2.heavy (fun v => sameC_refl v) rfl (by decide) rfl rfl (OpS.eff (Eff.append_own (b := 8) (en := encI) (l := (([] : List Int) ++ a43)) (l2 := [a48]) (p := 1) (q := 0) ⟨rfl, rfl, rfl, ⟨_, rfl, rfl⟩, by decide, by decide⟩ rfl rfl rfl rfl rfl rfl (flat_ones _) (by decide) hk51)) ?_;rintro v51 _ rfl;refine ⟨(all_cons (.inl (by kernel_rfl)) (all_cons (.inl (by kernel_rfl)) all_nil)), (all_cons (.inl (by kernel_rfl)) (all_cons (.inl (by kernel_rfl)) all_nil)), ?_⟩;refine yG (_::_::_::_::_::_::(seg encI wsn8_2 next_2 ++ (seg encI wsn4 l9 ++ C))) rfl (TD2.less (Less.ownTrue (p := 1) rfl (.inr (by simp))) (yG (_::_::_::_::_::_::(seg encI wsn8_2 next_2 ++ (seg encI wsn4 l9 ++ C))) rfl (TD2.fact (own_cellS (p := 1) rfl) (fun hot9=>TD2.heavy (fun v => sameC_refl v) rfl (by decide) rfl rfl (OpS.eff (Eff.new (New.buildSlice (en := encAV) (l := [v51]) (vs := [(_, _)]) (ws := [(_, [_])]) ⟨rfl, rfl⟩ rfl rfl rfl rfl (CellsL.cons hot9.1 CellsL.nil) rfl rfl))) ?_))));rintro _ _ ⟨v52_2, rfl, rfl⟩;refine ⟨(all_cons (.inl (by kernel_rfl)) (all_cons (.inl (by kernel_rfl)) all_nil)), (all_cons (.inl (by kernel_rfl)) (all_cons (.inl (by kernel_rfl)) all_nil)), ?_⟩
         refine TD2.less (Less.rowOwn (en := encAV) (l := [v51]) (p := 0) rfl) (yG (_::_::_::_::_::_::_::(seg encI wsn8_2 next_2 ++ (seg encI wsn4 l9 ++ C))) rfl (TD2.less (Pk.less (Pk.pick (p := 0) rfl (Pk.pick (p := 0) rfl (Pk.pick (p := 1) rfl (Pk.pick (p := 1) rfl (Pk.pick (p := 1) rfl (Pk.pick (p := 1) rfl (Pk.pick (p := 0) rfl Pk.refl)))))))) (yG (_::_::_::_::_::_::(seg encI [v51] [(([] : List Int) ++ a43) ++ [a48]] ++ (seg encI wsn8_2 next_2 ++ (seg encI wsn4 l9 ++ C)))) rfl ?_)));obtain ⟨hk53, h⟩ := chk_some h;refine TD2.fact (nest_len (p := 2) rfl) (fun hl53=>TD2.fact (nest_len (p := 0) rfl) (fun hm53=>TD2.heavy (fun v => sameC_refl v) rfl (by decide) rfl rfl (OpS.eff (Eff.append_nest (b := 24) (ls := next_2) (ls2 := [(([] : List Int) ++ a43) ++ [a48]]) (p := 2) (q := 0) ⟨rfl, rfl, rfl, ⟨_, rfl, rfl⟩, by decide, by decide⟩ rfl rfl rfl rfl rfl rfl (seg_ones (en := encI) hm53 (fun x hx => M6 x (List.mem_append_left _ hx))) (by decide) hk53)) ?_));rintro v53 _ rfl;refine ⟨(all_cons (.inl (by kernel_rfl)) (all_cons (.inl (by kernel_rfl)) all_nil)), (all_cons (.inl (by kernel_rfl)) (all_cons (.inl (by kernel_rfl)) all_nil)), ?_⟩;refine yG ([nestH false (.slice v52_2 0 (List.flatMap encAV.f [v51]).length true (List.length [v51]) (List.length [v51])) [(([] : List Int) ++ a43) ++ [a48]] [v51], ownL false (.slice v50 0 (List.flatMap encI.f [a48]).length true (List.length [a48]) (List.length [a48])) encI [a48], nestH true v53 (next_2 ++ [(([] : List Int) ++ a43) ++ [a48]]) (wsn8_2 ++ [v51]), ownL false v26 encI [(-1)], nestH z vn4 l9 wsn4, .row b1 3 [iv (c_Book_Signed), v_c_Book_Gatherings, v_c_Items]] ++ (seg encI [v51] [(([] : List Int) ++ a43) ++ [a48]] ++ (seg encI wsn8_2 next_2 ++ (seg encI wsn4 l9 ++ C)))) rfl (TD2.less (Less.cat [nestH false (.slice v52_2 0 (List.flatMap encAV.f [v51]).length true (List.length [v51]) (List.length [v51])) [(([] : List Int) ++ a43) ++ [a48]] [v51], ownL false (.slice v50 0 (List.flatMap encI.f [a48]).length true (List.length [a48]) (List.length [a48])) encI [a48], nestH true v53 (next_2 ++ [(([] : List Int) ++ a43) ++ [a48]]) (wsn8_2 ++ [v51]), ownL false v26 encI [(-1)], nestH z vn4 l9 wsn4, .row b1 3 [iv (c_Book_Signed), v_c_Book_Gatherings, v_c_Items]] hl53) (yG (_::_::_::_::_::_::(seg encI (wsn8_2 ++ [v51]) (next_2 ++ [(([] : List Int) ++ a43) ++ [a48]]) ++ (seg encI wsn4 l9 ++ C))) rfl ?_));refine yM R4 (Val.assign rfl) (TD2.nil (zT rfl (zM R4 ?_)));obtain ⟨hk38, h⟩ := chk_some h;refine zV R3 (Val.add rfl rfl hk38) (zA R4 (zN ?_));cases h;exact ⟨rfl, (v53, wsn8_2 ++ [v51]), (sb (pk [2,2,2,2,98,98] rfl))⟩
        refine zD rfl (zE ?_);cases h;exact ⟨ex_ne, ⟨rfl, (vn8_2, wsn8_2), (sb .refl)⟩⟩
       ·rintro next_2 ⟨vn8_2, wsn8_2⟩ h;dsimp only;refine zT rfl (zM R4 ?_);obtain ⟨hk32, h⟩ := chk_some h;refine zV R3 (Val.add rfl rfl hk32) (zA R4 (zN ?_));cases h;exact ⟨rfl, (vn8_2, wsn8_2), (sb .refl)⟩
      refine zD rfl (zE ?_);cases h;exact ⟨ex_ne, ⟨rfl, (vn8, wsn8), (sb .refl)⟩⟩
     ·rintro next ⟨vn8, wsn8⟩ h;dsimp only;refine zT rfl (zM R4 (zA R4 (zN ?_)));cases h;exact ⟨rfl, (vn8, wsn8), (sb (pk [0,1,1,98] rfl))⟩
    refine zD rfl (zK (zU rfl (zA R4 (zN ?_))))
    show T _ _ _ _ _ _;apply T.joinA (r := j) (W := AV × (List AV)) (fun j w => ⟨[], [(1, .ptr b1 0 3), (4, iv (i)), (6, w.1)], nestH true w.1 j w.2 :: nestH z vn4 l9 wsn4 :: .row b1 3 [iv (c_Book_Signed), v_c_Book_Gatherings, v_c_Items] :: (seg encI w.2 j ++ (seg encI wsn4 l9 ++ C))⟩) h
    ·intro j h;refine zU rfl (zA R4 (zN (zB (T.nilown (u := 1) (T.things (hs' := nestH true nilS ([] : List (List Int)) [] :: nestH z vn4 l9 wsn4 :: .row b1 3 [iv (c_Book_Signed), v_c_Book_Gatherings, v_c_Items] :: (seg encI [] ([] : List (List Int)) ++ (seg encI wsn4 l9 ++ C))) rfl ?_)))))
     show T _ _ _ _ _ _;apply T.iter (r := j) (W := AV × (List AV)) (fun j w => ⟨[], [(1, .ptr b1 0 3), (3, vn4), (4, iv (i)), (5, a20.could.v), (6, w.1), (7, iv (j.1))], nestH true w.1 j.2 w.2 :: nestH z vn4 l9 wsn4 :: .row b1 3 [iv (c_Book_Signed), v_c_Book_Gatherings, v_c_Items] :: (seg encI w.2 j.2 ++ (seg encI wsn4 l9 ++ C))⟩) (w0 := (nilS, [])) h
     ·exact (sb .refl)
     rintro ⟨k_, next⟩ ⟨vn14, wsn14⟩ a h;unfold P_r4_All_L4 at h;dsimp only at h;dsimp only;refine zS (zU rfl (zM R4 (zM R4 (zV R3 (Val.len_nest (p := 1) rfl rfl rfl) ?_))));obtain ⟨c30, hc30⟩ := zY (k_ < (l9.length : Int));refine zV R3 (Val.lss hc30 rfl rfl) (zN ?_);obtain ⟨rfl, hc30, h⟩ | ⟨rfl, hc30, h⟩ := zI hc30 h
     ·refine zC rfl (zK ?_)
      show T _ _ _ _ _ _;apply T.joinA (r := a) (W := AV × (List AV)) (fun j w => ⟨[], [(1, .ptr b1 0 3), (3, vn4), (4, iv (i)), (5, a20.could.v), (6, w.1), (7, iv (k_))], nestH true w.1 j w.2 :: nestH z vn4 l9 wsn4 :: .row b1 3 [iv (c_Book_Signed), v_c_Book_Gatherings, v_c_Items] :: (seg encI w.2 j ++ (seg encI wsn4 l9 ++ C))⟩) h
      ·intro j h;refine zB (zU rfl (zA R4 (zN (zB ?_))))
       show T _ _ _ _ _ _;apply T.iter (r := j) (W := AV × (List AV)) (fun j w => ⟨[], [(1, .ptr b1 0 3), (3, vn4), (4, iv (i)), (5, a20.could.v), (6, w.1), (7, iv (k_)), (8, iv (j.1))], nestH true w.1 j.2 w.2 :: nestH z vn4 l9 wsn4 :: .row b1 3 [iv (c_Book_Signed), v_c_Book_Gatherings, v_c_Items] :: (seg encI w.2 j.2 ++ (seg encI wsn4 l9 ++ C))⟩) (w0 := (vn14, wsn14)) h
       ·exact (sb .refl)
       rintro ⟨n, next_2⟩ ⟨vn14_2, wsn14_2⟩ a h;unfold P_r4_All_L5 at h;dsimp only at h;dsimp only;refine zS (zU rfl (zM R4 (zM R4 (zV R3 (Val.len_gs rfl rfl) ?_))));obtain ⟨c36, hc36⟩ := zY (n < (a20.could.l.length : Int));refine zV R3 (Val.lss hc36 rfl rfl) (zN ?_);obtain ⟨rfl, hc36, h⟩ | ⟨rfl, hc36, h⟩ := zI hc36 h
       ·refine zC rfl (zK (zS (zB (T.drawE (l1 := [0, 1, 2, 3, 4, 5, 7, 8, 9, 10, 11]) (l2 := [6, 12, 13, 14, 15]) (by kernel_rfl) (by kernel_rfl) (yL R4 (Val.move rfl) (TD1.floatN rfl rfl rfl rfl (New.buildSlice (en := encI) (l := ([] : List Int)) (vs := []) (ws := []) ⟨rfl, rfl⟩ rfl rfl rfl rfl CellsL.nil rfl rfl) (fun v40=>yL R4 (Val.move rfl) (yL R4 (Val.move rfl) ?_))))))));obtain ⟨a43, hia43, ea43, h⟩ := el_some h;refine TD1.fact (nest_at (en := encI) (p := 2) rfl hia43 ea43) (fun hp=>?_);obtain ⟨ida43, wa43, ata43, ewa43, hma43⟩ := hp;refine yL R4 (Val.iaddr_nest ata43 ⟨rfl, rfl⟩ rfl rfl hia43) (yR R4 (Val.load_nest (p := 2) rfl ata43 ⟨_, rfl, rfl⟩ rfl ewa43) ?_)
        have hna43 : Rdl (seg encI wsn14_2 next_2 ++ (seg encI wsn4 l9 ++ C)) encI wa43 a43 := .inr ⟨true, (List.mem_append_right _ (List.mem_append_left _ hma43))⟩;refine yL R4 (Val.move rfl) (yL R4 (Val.move rfl) ?_);obtain ⟨a48, hia48, ea48, h⟩ := el_some h;refine TD1.fact (rdl_at (Rdl.gs (C := C) a20.could) (memS (memS (memS (memS (memG (memG mem0)))))) hia48 ea48) (fun hp=>?_);obtain ⟨pa48, hpa48, hva48⟩ := hp;refine yL R4 (hva48 ⟨rfl, rfl⟩ rfl rfl) (yR R4 (Val.load_e hpa48 (memS (memS (memS (memS (memG (memG mem0)))))) ⟨_, rfl, rfl⟩ rfl rfl) (TD1.floatN rfl rfl rfl rfl (New.buildSlice (en := encI) (l := [a48]) (vs := [(_, _)]) (ws := [(_, [_])]) ⟨rfl, rfl⟩ rfl rfl rfl rfl (CellsL.cons rfl CellsL.nil) rfl rfl) (fun v50=>TD1.over (fun v => sameC_refl v) (all_cons (⟨_, rfl, (Val.load_e hpa48 (memS (memS (memS (memS (memS (memG (memG mem0))))))) ⟨_, rfl, rfl⟩ rfl rfl)⟩) (all_cons (⟨_, rfl, (Val.load_nest (p := 3) rfl ata43 ⟨_, rfl, rfl⟩ rfl ewa43)⟩) all_nil)) (TD2.less (Less.floatOwn (en := encI) (l := ([] : List Int)) (p := 1) rfl) (yG (_::_::_::_::_::(seg encI wsn14_2 next_2 ++ (seg encI wsn4 l9 ++ C))) rfl ?_)))));obtain ⟨hk45, h⟩ := chk_some h;refine TD2.heavy (fun v => sameC_refl v) rfl (by decide) rfl rfl (OpS.eff (Eff.append_l (b := 8) (en := encI) (l := ([] : List Int)) (p := 1) ⟨rfl, rfl, rfl, ⟨_, rfl, rfl⟩, by decide, by decide⟩ rfl rfl rfl hna43 M5 rfl rfl (flat_ones _) (by decide) hk45)) ?_;rintro v45 _ rfl;refine ⟨(all_cons (.inr ⟨_, rfl, (Val.load_e hpa48 (memS (memS (memS (memS (memS (memG (memG mem0))))))) ⟨_, rfl, rfl⟩ rfl rfl)⟩) (all_cons (.inl (by kernel_rfl)) all_nil)), (all_cons (.inr (by repeat first | exact List.mem_cons_self | apply List.mem_cons_of_mem)) (all_cons (.inl (by kernel_rfl)) all_nil)), ?_⟩;refine yG (_::_::_::_::_::(seg encI wsn14_2 next_2 ++ (seg encI wsn4 l9 ++ C))) rfl (TD2.less (Less.floatOwn (en := encI) (l := [a48]) (p := 0) rfl) (yG (_::_::_::_::_::(seg encI wsn14_2 next_2 ++ (seg encI wsn4 l9 ++ C))) rfl ?_));obtain ⟨hk51, h⟩ := chk_some h;refine TD2.heavy (fun v => sameC_refl v) rfl (by decide) rfl rfl (OpS.eff (Eff.append_own (b := 8) (en := encI) (l := (([] : List Int) ++ a43)) (l2 := [a48]) (p := 1) (q := 0) ⟨rfl, rfl, rfl, ⟨_, rfl, rfl⟩, by decide, by decide⟩ rfl rfl rfl rfl rfl rfl (flat_ones _) (by decide) hk51)) ?_;rintro v51 _ rfl;refine ⟨(all_cons (.inl (by kernel_rfl)) (all_cons (.inl (by kernel_rfl)) all_nil)), (all_cons (.inl (by kernel_rfl)) (all_cons (.inl (by kernel_rfl)) all_nil)), ?_⟩;refine yG (_::_::_::_::_::(seg encI wsn14_2 next_2 ++ (seg encI wsn4 l9 ++ C))) rfl (TD2.less (Less.ownTrue (p := 1) rfl (.inr (by simp))) (yG (_::_::_::_::_::(seg encI wsn14_2 next_2 ++ (seg encI wsn4 l9 ++ C))) rfl (TD2.fact (own_cellS (p := 1) rfl) (fun hot15=>TD2.heavy (fun v => sameC_refl v) rfl (by decide) rfl rfl (OpS.eff (Eff.new (New.buildSlice (en := encAV) (l := [v51]) (vs := [(_, _)]) (ws := [(_, [_])]) ⟨rfl, rfl⟩ rfl rfl rfl rfl (CellsL.cons hot15.1 CellsL.nil) rfl rfl))) ?_))));rintro _ _ ⟨v52_2, rfl, rfl⟩
        refine ⟨(all_cons (.inl (by kernel_rfl)) (all_cons (.inl (by kernel_rfl)) all_nil)), (all_cons (.inl (by kernel_rfl)) (all_cons (.inl (by kernel_rfl)) all_nil)), ?_⟩;refine TD2.less (Less.rowOwn (en := encAV) (l := [v51]) (p := 0) rfl) (yG (_::_::_::_::_::_::(seg encI wsn14_2 next_2 ++ (seg encI wsn4 l9 ++ C))) rfl (TD2.less (Pk.less (Pk.pick (p := 0) rfl (Pk.pick (p := 0) rfl (Pk.pick (p := 1) rfl (Pk.pick (p := 1) rfl (Pk.pick (p := 1) rfl (Pk.pick (p := 0) rfl Pk.refl))))))) (yG (_::_::_::_::_::(seg encI [v51] [(([] : List Int) ++ a43) ++ [a48]] ++ (seg encI wsn14_2 next_2 ++ (seg encI wsn4 l9 ++ C)))) rfl ?_)));obtain ⟨hk53, h⟩ := chk_some h;refine TD2.fact (nest_len (p := 2) rfl) (fun hl53=>TD2.fact (nest_len (p := 0) rfl) (fun hm53=>TD2.heavy (fun v => sameC_refl v) rfl (by decide) rfl rfl (OpS.eff (Eff.append_nest (b := 24) (ls := next_2) (ls2 := [(([] : List Int) ++ a43) ++ [a48]]) (p := 2) (q := 0) ⟨rfl, rfl, rfl, ⟨_, rfl, rfl⟩, by decide, by decide⟩ rfl rfl rfl rfl rfl rfl (seg_ones (en := encI) hm53 (fun x hx => M5 x (List.mem_append_left _ hx))) (by decide) hk53)) ?_));rintro v53 _ rfl;refine ⟨(all_cons (.inl (by kernel_rfl)) (all_cons (.inl (by kernel_rfl)) all_nil)), (all_cons (.inl (by kernel_rfl)) (all_cons (.inl (by kernel_rfl)) all_nil)), ?_⟩;refine yG ([nestH false (.slice v52_2 0 (List.flatMap encAV.f [v51]).length true (List.length [v51]) (List.length [v51])) [(([] : List Int) ++ a43) ++ [a48]] [v51], ownL false (.slice v50 0 (List.flatMap encI.f [a48]).length true (List.length [a48]) (List.length [a48])) encI [a48], nestH true v53 (next_2 ++ [(([] : List Int) ++ a43) ++ [a48]]) (wsn14_2 ++ [v51]), nestH z vn4 l9 wsn4, .row b1 3 [iv (c_Book_Signed), v_c_Book_Gatherings, v_c_Items]] ++ (seg encI [v51] [(([] : List Int) ++ a43) ++ [a48]] ++ (seg encI wsn14_2 next_2 ++ (seg encI wsn4 l9 ++ C)))) rfl (TD2.less (Less.cat [nestH false (.slice v52_2 0 (List.flatMap encAV.f [v51]).length true (List.length [v51]) (List.length [v51])) [(([] : List Int) ++ a43) ++ [a48]] [v51], ownL false (.slice v50 0 (List.flatMap encI.f [a48]).length true (List.length [a48]) (List.length [a48])) encI [a48], nestH true v53 (next_2 ++ [(([] : List Int) ++ a43) ++ [a48]]) (wsn14_2 ++ [v51]), nestH z vn4 l9 wsn4, .row b1 3 [iv (c_Book_Signed), v_c_Book_Gatherings, v_c_Items]] hl53) (yG (_::_::_::_::_::(seg encI (wsn14_2 ++ [v51]) (next_2 ++ [(([] : List Int) ++ a43) ++ [a48]]) ++ (seg encI wsn4 l9 ++ C))) rfl (yM R4 (Val.assign rfl) (TD2.nil (zT rfl (zM R4 ?_))))));obtain ⟨hk38, h⟩ := chk_some h;refine zV R3 (Val.add rfl rfl hk38) (zA R4 (zN ?_));cases h;exact ⟨rfl, (v53, wsn14_2 ++ [v51]), (sb (pk [2,2,2,98,98] rfl))⟩
       refine zD rfl (zE ?_);cases h;exact ⟨ex_ne, ⟨rfl, (vn14_2, wsn14_2), (sb .refl)⟩⟩
      ·rintro next_2 ⟨vn14_2, wsn14_2⟩ h;dsimp only;refine zT rfl (zM R4 ?_);obtain ⟨hk32, h⟩ := chk_some h;refine zV R3 (Val.add rfl rfl hk32) (zA R4 (zN ?_));cases h;exact ⟨rfl, (vn14_2, wsn14_2), (sb .refl)⟩
     refine zD rfl (zE ?_);cases h;exact ⟨ex_ne, ⟨rfl, (vn14, wsn14), (sb .refl)⟩⟩
    ·rintro next ⟨vn14, wsn14⟩ h;dsimp only;refine zT rfl (zM R4 (zA R4 (zN ?_)));cases h;exact ⟨rfl, (vn14, wsn14), (sb .refl)⟩
   ·rintro next ⟨vn8, wsn8⟩ h;dsimp only;refine zT rfl (zM R4 ?_);obtain ⟨hk16, h⟩ := chk_some h;refine zV R3 (Val.add rfl rfl hk16) (zA R4 (zN ?_));cases h;exact ⟨rfl, (vn8, wsn8), (sb (.pick (p := 0) rfl (.pick (p := 1) rfl (.drop (.consA (.dropA .refl))))))⟩
  refine zD rfl (zE ?_);cases h;exact ⟨ex_ne, ⟨rfl, (vn4, wsn4), (sb .refl)⟩⟩
 ·rintro ⟨l9, z⟩ ⟨vn4, wsn4⟩ h;dsimp only at h;dsimp only;refine zU rfl (zM R4 (zA R4 (zN (zR ?_))));cases h;exact ⟨rfl, _, rfl, ⟨(vn4, wsn4), rfl, (pk [0,98] rfl)⟩⟩
theorem w_r4_All (c_Book_Signed : Int) (c_Book_Gatherings : GS encG) (c_Items : GS encIt) (r : (List (List Int)) × Bool) (h : P_r4_All c_Book_Signed c_Book_Gatherings.l c_Items.l = some r) : Comes (EL 0) 36 [.agg [iv (c_Book_Signed), c_Book_Gatherings.v, c_Items.v]] ((GSo r.2 (encSl encI) (List.map (GSo true encI) r.1)).v) :=
 TF.run (tf_r4_All (Nat.le_refl _) (RdT.gs c_Book_Gatherings) (RdT.gs c_Items) h) fun w => (.nest (p := 0) encI_lits rfl (fun x hx => M1 x (List.mem_append_left _ hx)))
end Go.Am.YthckcbfijdambaaGreat
end
section
namespace Go.Am
set_option linter.unusedVariables false
end Go.Am
end
section
namespace Go.Am.YthckcbfijdambaaGreat
open Go.Am Go.RowKit
set_option linter.unusedVariables false
set_option linter.unusedSimpArgs false
end Go.Am.YthckcbfijdambaaGreat
end
section
namespace Go.Am
set_option linter.unusedVariables false
noncomputable def P_r4_Same (a_Leaves : List Int) (a_Lost : List Int) (a_Pieces : Int) (a_Strange : List Int) (a_Twice : List Int) (a_Moved : List Int) (a_All : Int) (b_Leaves : List Int) (b_Lost : List Int) (b_Pieces : Int) (b_Strange : List Int) (b_Twice : List Int) (b_Moved : List Int) (b_All : Int) : Option Bool :=
  andx (
    andx (P_r1_Ints a_Leaves b_Leaves) fun same9 =>
      if same9 = true then
        andx (P_r1_Ints a_Lost b_Lost) fun same15 =>
          if same15 = true then
            if a_Pieces = b_Pieces then
              andx (P_r1_Ints a_Strange b_Strange) fun same29 =>
                if same29 = true then
                  andx (P_r1_Ints a_Twice b_Twice) fun same36 =>
                    if same36 = true then
                      andx (P_r1_Ints a_Moved b_Moved) fun same43 =>
                        if same43 = true then
                          some (decide (a_All = b_All))
                        else
                          some false
                    else
                      some false
                else
                  some false
            else
              some false
          else
            some false
      else
        some false) fun x4 =>
    some x4
end Go.Am
end
section
namespace Go.Am.YthckcbfijdambaaGreat
open Go.Am Go.RowKit
set_option linter.unusedVariables false
set_option linter.unusedSimpArgs false
set_option maxRecDepth 10000 in
theorem tf_r4_Same {k : Nat} (hk : 1 ≤ k) {C : List Thing} {v_a_Leaves : AV} {a_Leaves : List Int} {v_a_Lost : AV} {a_Lost : List Int} {a_Pieces : Int} {v_a_Strange : AV} {a_Strange : List Int} {v_a_Twice : AV} {a_Twice : List Int} {v_a_Moved : AV} {a_Moved : List Int} {a_All : Int} {v_b_Leaves : AV} {b_Leaves : List Int} {v_b_Lost : AV} {b_Lost : List Int} {b_Pieces : Int} {v_b_Strange : AV} {b_Strange : List Int} {v_b_Twice : AV} {b_Twice : List Int} {v_b_Moved : AV} {b_Moved : List Int} {b_All : Int} (h_a_Leaves : Rdl C encI v_a_Leaves a_Leaves) (h_a_Lost : Rdl C encI v_a_Lost a_Lost) (h_a_Strange : Rdl C encI v_a_Strange a_Strange) (h_a_Twice : Rdl C encI v_a_Twice a_Twice) (h_a_Moved : Rdl C encI v_a_Moved a_Moved) (h_b_Leaves : Rdl C encI v_b_Leaves b_Leaves) (h_b_Lost : Rdl C encI v_b_Lost b_Lost) (h_b_Strange : Rdl C encI v_b_Strange b_Strange) (h_b_Twice : Rdl C encI v_b_Twice b_Twice) (h_b_Moved : Rdl C encI v_b_Moved b_Moved) {r : Bool} (h : P_r4_Same a_Leaves a_Lost a_Pieces a_Strange a_Twice a_Moved a_All b_Leaves b_Lost b_Pieces b_Strange b_Twice b_Moved b_All = some r) :
  TF (EL k) 24 [.agg [v_a_Leaves, v_a_Lost, iv (a_Pieces), v_a_Strange, v_a_Twice, v_a_Moved, iv (a_All)], .agg [v_b_Leaves, v_b_Lost, iv (b_Pieces), v_b_Strange, v_b_Twice, v_b_Moved, iv (b_All)]] C (RepF (fun (w : Unit) => bv r) (fun (w : Unit) => C)) := by
 unfold P_r4_Same at h;refine TF.enter (fn := Go.Proofs.Tryz.f24) rfl rfl rfl rfl rfl (zU rfl (zQ 7 [_,_,_,_,_,_,_] R7 (fun b2=>zQ 7 [_,_,_,_,_,_,_] R7 (fun b3=>zA R4 (zN ?_)))))
 show T _ _ _ _ _ _;apply T.joinA (r := r) (W := Unit) (fun j w => ⟨[], [(4, bv j)], .row b3 7 [v_b_Leaves, v_b_Lost, iv (b_Pieces), v_b_Strange, v_b_Twice, v_b_Moved, iv (b_All)] :: .row b2 7 [v_a_Leaves, v_a_Lost, iv (a_Pieces), v_a_Strange, v_a_Twice, v_a_Moved, iv (a_All)] :: C⟩) h
 ·intro j h;refine zT rfl (zF 0 R6 (zL 1 R3 R6 (zF 0 R6 (zL 0 R3 R6 ?_))));obtain ⟨same9, hr9, h⟩ := andx_some h;obtain ⟨g, hgg, hrg⟩ := Rdl.reif (hs := .row b3 7 [v_b_Leaves, v_b_Lost, iv (b_Pieces), v_b_Strange, v_b_Twice, v_b_Moved, iv (b_All)] :: .row b2 7 [v_a_Leaves, v_a_Lost, iv (a_Pieces), v_a_Strange, v_a_Twice, v_a_Moved, iv (a_All)] :: C) h_a_Leaves M2 (ReifL.flat encI_tr);obtain ⟨g_2, hgg_2, hrg_2⟩ := Rdl.reif (hs := .row b3 7 [v_b_Leaves, v_b_Lost, iv (b_Pieces), v_b_Strange, v_b_Twice, v_b_Moved, iv (b_All)] :: .row b2 7 [v_a_Leaves, v_a_Lost, iv (a_Pieces), v_a_Strange, v_a_Twice, v_a_Moved, iv (a_All)] :: C) h_b_Leaves M2 (ReifL.flat encI_tr);refine TO.call rfl rfl rfl rfl rfl (orcL rfl aD) (.cons (hrg _) (.cons (hrg_2 _) .nil)) (sem_of (w_r1_Ints g g_2 _ (by try rw [hgg]; try rw [hgg_2]; exact hr9))) (zM R4 ?_);obtain ⟨rfl, h⟩ | ⟨rfl, h⟩ := zZ h
  ·refine zF 1 R6 (zL 1 R3 R6 (zF 1 R6 (zL 0 R3 R6 ?_)));obtain ⟨same15, hr15, h⟩ := andx_some h;obtain ⟨g_3, hgg_3, hrg_3⟩ := Rdl.reif (hs := .row b3 7 [v_b_Leaves, v_b_Lost, iv (b_Pieces), v_b_Strange, v_b_Twice, v_b_Moved, iv (b_All)] :: .row b2 7 [v_a_Leaves, v_a_Lost, iv (a_Pieces), v_a_Strange, v_a_Twice, v_a_Moved, iv (a_All)] :: C) h_a_Lost M2 (ReifL.flat encI_tr);obtain ⟨g_4, hgg_4, hrg_4⟩ := Rdl.reif (hs := .row b3 7 [v_b_Leaves, v_b_Lost, iv (b_Pieces), v_b_Strange, v_b_Twice, v_b_Moved, iv (b_All)] :: .row b2 7 [v_a_Leaves, v_a_Lost, iv (a_Pieces), v_a_Strange, v_a_Twice, v_a_Moved, iv (a_All)] :: C) h_b_Lost M2 (ReifL.flat encI_tr);refine TO.call rfl rfl rfl rfl rfl (orcL rfl aD) (.cons (hrg_3 _) (.cons (hrg_4 _) .nil)) (sem_of (w_r1_Ints g_3 g_4 _ (by try rw [hgg_3]; try rw [hgg_4]; exact hr15))) (zP R6 (zM R4 ?_));obtain ⟨rfl, h⟩ | ⟨rfl, h⟩ := zZ h
   ·refine zF 2 R6 (zL 1 R3 R6 (zF 2 R6 (zL 0 R3 R6 ?_)));obtain ⟨c22, hc22⟩ := zY (a_Pieces = b_Pieces);refine zV R3 (Val.eql hc22 rfl rfl) (zP R6 (zM R4 ?_));obtain ⟨rfl, hc22, h⟩ | ⟨rfl, hc22, h⟩ := zI hc22 h
    ·refine zF 3 R6 (zL 1 R3 R6 (zF 3 R6 (zL 0 R3 R6 ?_)));obtain ⟨same29, hr29, h⟩ := andx_some h;obtain ⟨g_5, hgg_5, hrg_5⟩ := Rdl.reif (hs := .row b3 7 [v_b_Leaves, v_b_Lost, iv (b_Pieces), v_b_Strange, v_b_Twice, v_b_Moved, iv (b_All)] :: .row b2 7 [v_a_Leaves, v_a_Lost, iv (a_Pieces), v_a_Strange, v_a_Twice, v_a_Moved, iv (a_All)] :: C) h_a_Strange M2 (ReifL.flat encI_tr);obtain ⟨g_6, hgg_6, hrg_6⟩ := Rdl.reif (hs := .row b3 7 [v_b_Leaves, v_b_Lost, iv (b_Pieces), v_b_Strange, v_b_Twice, v_b_Moved, iv (b_All)] :: .row b2 7 [v_a_Leaves, v_a_Lost, iv (a_Pieces), v_a_Strange, v_a_Twice, v_a_Moved, iv (a_All)] :: C) h_b_Strange M2 (ReifL.flat encI_tr);refine TO.call rfl rfl rfl rfl rfl (orcL rfl aD) (.cons (hrg_5 _) (.cons (hrg_6 _) .nil)) (sem_of (w_r1_Ints g_5 g_6 _ (by try rw [hgg_5]; try rw [hgg_6]; exact hr29))) (zP R6 (zM R4 ?_));obtain ⟨rfl, h⟩ | ⟨rfl, h⟩ := zZ h
     ·refine zF 4 R6 (zL 1 R3 R6 (zF 4 R6 (zL 0 R3 R6 ?_)));obtain ⟨same36, hr36, h⟩ := andx_some h;obtain ⟨g_7, hgg_7, hrg_7⟩ := Rdl.reif (hs := .row b3 7 [v_b_Leaves, v_b_Lost, iv (b_Pieces), v_b_Strange, v_b_Twice, v_b_Moved, iv (b_All)] :: .row b2 7 [v_a_Leaves, v_a_Lost, iv (a_Pieces), v_a_Strange, v_a_Twice, v_a_Moved, iv (a_All)] :: C) h_a_Twice M2 (ReifL.flat encI_tr);obtain ⟨g_8, hgg_8, hrg_8⟩ := Rdl.reif (hs := .row b3 7 [v_b_Leaves, v_b_Lost, iv (b_Pieces), v_b_Strange, v_b_Twice, v_b_Moved, iv (b_All)] :: .row b2 7 [v_a_Leaves, v_a_Lost, iv (a_Pieces), v_a_Strange, v_a_Twice, v_a_Moved, iv (a_All)] :: C) h_b_Twice M2 (ReifL.flat encI_tr);refine TO.call rfl rfl rfl rfl rfl (orcL rfl aD) (.cons (hrg_7 _) (.cons (hrg_8 _) .nil)) (sem_of (w_r1_Ints g_7 g_8 _ (by try rw [hgg_7]; try rw [hgg_8]; exact hr36))) (zP R6 (zM R4 ?_));obtain ⟨rfl, h⟩ | ⟨rfl, h⟩ := zZ h
      ·refine zF 5 R6 (zL 1 R3 R6 (zF 5 R6 (zL 0 R3 R6 ?_)));obtain ⟨same43, hr43, h⟩ := andx_some h;obtain ⟨g_9, hgg_9, hrg_9⟩ := Rdl.reif (hs := .row b3 7 [v_b_Leaves, v_b_Lost, iv (b_Pieces), v_b_Strange, v_b_Twice, v_b_Moved, iv (b_All)] :: .row b2 7 [v_a_Leaves, v_a_Lost, iv (a_Pieces), v_a_Strange, v_a_Twice, v_a_Moved, iv (a_All)] :: C) h_a_Moved M2 (ReifL.flat encI_tr);obtain ⟨g_10, hgg_10, hrg_10⟩ := Rdl.reif (hs := .row b3 7 [v_b_Leaves, v_b_Lost, iv (b_Pieces), v_b_Strange, v_b_Twice, v_b_Moved, iv (b_All)] :: .row b2 7 [v_a_Leaves, v_a_Lost, iv (a_Pieces), v_a_Strange, v_a_Twice, v_a_Moved, iv (a_All)] :: C) h_b_Moved M2 (ReifL.flat encI_tr);refine TO.call rfl rfl rfl rfl rfl (orcL rfl aD) (.cons (hrg_9 _) (.cons (hrg_10 _) .nil)) (sem_of (w_r1_Ints g_9 g_10 _ (by try rw [hgg_9]; try rw [hgg_10]; exact hr43))) (zP R6 (zM R4 ?_));obtain ⟨rfl, h⟩ | ⟨rfl, h⟩ := zZ h
       ·refine zF 6 R6 (zL 1 R3 R6 (zF 6 R6 (zL 0 R3 R6 ?_)));obtain ⟨c50, hc50⟩ := zY (a_All = b_All);refine zV R3 (Val.eql hc50 rfl rfl) (zP R6 (zA R4 (zN ?_)));subst hc50;cases h;exact ⟨rfl, (), (sb .refl)⟩
       refine zO R3 (zO R3 (zO R3 (zO R3 (zO R3 (zP R6 (zA R4 (zN ?_)))))));cases h;exact ⟨rfl, (), (sb .refl)⟩
      refine zO R3 (zO R3 (zO R3 (zO R3 (zO R3 (zP R6 (zM R4 (zO R3 (zO R3 (zO R3 (zO R3 (zO R3 (zP R6 (zA R4 (zN ?_))))))))))))));cases h;exact ⟨rfl, (), (sb .refl)⟩
     refine zO R3 (zO R3 (zO R3 (zO R3 (zO R3 (zP R6 (zM R4 (zO R3 (zO R3 (zO R3 (zO R3 (zO R3 (zP R6 (zM R4 (zO R3 (zO R3 (zO R3 (zO R3 (zO R3 (zP R6 (zA R4 (zN ?_)))))))))))))))))))));cases h;exact ⟨rfl, (), (sb .refl)⟩
    refine zO R3 (zO R3 (zO R3 (zO R3 (zO R3 (zP R6 (zM R4 (zO R3 (zO R3 (zO R3 (zO R3 (zO R3 (zP R6 (zM R4 (zO R3 (zO R3 (zO R3 (zO R3 (zO R3 (zP R6 (zM R4 (zO R3 (zO R3 (zO R3 (zO R3 (zO R3 (zP R6 (zA R4 (zN ?_))))))))))))))))))))))))))));cases h;exact ⟨rfl, (), (sb .refl)⟩
   refine zO R3 (zO R3 (zO R3 (zO R3 (zO R3 (zP R6 (zM R4 (zO R3 (zO R3 (zO R3 (zO R3 (zO R3 (zP R6 (zM R4 (zO R3 (zO R3 (zO R3 (zO R3 (zO R3 (zP R6 (zM R4 (zO R3 (zO R3 (zO R3 (zO R3 (zO R3 (zP R6 (zM R4 (zO R3 (zO R3 (zO R3 (zO R3 (zO R3 (zP R6 (zA R4 (zN ?_)))))))))))))))))))))))))))))))))));cases h;exact ⟨rfl, (), (sb .refl)⟩
  refine zO R3 (zO R3 (zO R3 (zO R3 (zO R3 (zP R6 (zM R4 (zO R3 (zO R3 (zO R3 (zO R3 (zO R3 (zP R6 (zM R4 (zO R3 (zO R3 (zO R3 (zO R3 (zO R3 (zP R6 (zM R4 (zO R3 (zO R3 (zO R3 (zO R3 (zO R3 (zP R6 (zM R4 (zO R3 (zO R3 (zO R3 (zO R3 (zO R3 (zP R6 (zM R4 (zO R3 (zO R3 (zO R3 (zO R3 (zO R3 ?_)))))))))))))))))))))))))))))))))))))));refine zP R6 (zA R4 (zN ?_));cases h;exact ⟨rfl, (), (sb .refl)⟩
 ·rintro x4 _ h;refine zR ?_;cases h;exact ⟨rfl, _, rfl, ⟨(), rfl, (pk [98,98] rfl)⟩⟩
end Go.Am.YthckcbfijdambaaGreat
end
section
namespace Go.Am
set_option linter.unusedVariables false
noncomputable def P_l_valid (c_Book_Signed : Int) (c_Book_Gatherings : List Gat) (c_Items : List Item) : Option Bool :=
 andx (P_r4_Check c_Book_Signed c_Book_Gatherings c_Items) fun (y8, y8_2, y8_3) =>
  some (decide (y8_3 = 0))
noncomputable def P_l_kept_L1 (runs : List S_duodecimoref04_Run) (bits : List UInt8) : (Int × Int × (List Int)) → Option (Stp (Int × Int × (List Int)) (List Int)) := fun (last, i, out) =>
  if i < (runs.length : Int) then
    andx (
      andx (
        if (bits.length : Int) > 0 then
          chk (0 < (bits.length : Int)) (
            el bits (Int.tmod i (bits.length : Int)) fun a23 =>
            chk ((0 : Int) < 2) (
              if (Int.tmod (a23.toNat : Int) 2) = 1 then
                el runs i fun a31 =>
                some (decide (a31.first > last))
              else
                some false))
        else
          some false) fun x36 =>
        if x36 = true then
          chk (out.length + [i].length < 1000000000) (
            el runs i fun a43 =>
            some (a43.last, out ++ [i]))
        else
          some (last, out)) fun (last_2, out_2) =>
      chk (I64 (i + 1)) (
        some (Stp.ag (last_2, (i + 1), out_2)))
  else
    some (Stp.dn out)
noncomputable def P_l_kept (runs : List S_duodecimoref04_Run) (bits : List UInt8) : Option (List Int) :=
  andx (
    iter (P_l_kept_L1 runs bits) ((-1), 0, [])) fun out =>
    some out
noncomputable def P_law_CopyFewest_L1 (c_Items : List Item) (y21 : List Int) (y21_2 : Bool) : Int → Option (Stp Int (Ex Unit Bool)) := fun i =>
  if i < (((GSo y21_2 encI y21).l).length : Int) then
    seqx (
      andx (
        el c_Items i fun a58 =>
        if (a58.could.l.length : Int) = 0 then
          el ((GSo y21_2 encI y21).l) i fun a67 =>
          if ¬ a67 = (-1) then
            some true
          else
            el c_Items i fun a75 =>
            if (a75.could.l.length : Int) > 0 then
              el c_Items i fun a84 =>
              el ((GSo y21_2 encI y21).l) i fun a90 =>
              andx (P_r1_Has a84.could.l a90) fun has92 =>
                some (!has92)
            else
              some false
        else
          el c_Items i fun a75 =>
          if (a75.could.l.length : Int) > 0 then
            el c_Items i fun a84 =>
            el ((GSo y21_2 encI y21).l) i fun a90 =>
            andx (P_r1_Has a84.could.l a90) fun has92 =>
              some (!has92)
          else
            some false) fun x95 =>
        if x95 = true then
          some (Ex.rt (Stp.dn (Ex.rt false)))
        else
          some (Ex.nx ())) fun _ =>
      chk (I64 (i + 1)) (
        some (Stp.ag (i + 1)))
  else
    some (Stp.dn (Ex.nx ()))
noncomputable def P_law_CopyFewest_L2 (y21_10 : List Int) (y21_11 : Bool) (y153 : List S_duodecimoref04_Run) : (Int × Int × Int) → Option (Stp (Int × Int × Int) (Ex Int Bool)) := fun (last, moved, i) =>
  if i < (y153.length : Int) then
    seqx (
      el y153 i fun a164 =>
      andx (P_r1_Has ((GSo y21_11 encI y21_10).l) a164.item) fun has167 =>
        if has167 = true then
          chk (I64 (moved + 1)) (
            some (Ex.nx (last, (moved + 1))))
        else
          el y153 i fun a172 =>
          if a172.first ≤ last then
            some (Ex.rt (Stp.dn (Ex.rt false)))
          else
            el y153 i fun a179 =>
            some (Ex.nx (a179.last, moved))) fun (last_2, moved_2) =>
      chk (I64 (i + 1)) (
        some (Stp.ag (last_2, moved_2, (i + 1))))
  else
    some (Stp.dn (Ex.nx moved))
noncomputable def P_law_CopyFewest (c_Book_Signed : Int) (c_Book_Gatherings : List Gat) (c_Items : List Item) (n : UInt16) (bits : List UInt8) : Option Bool :=
  andx (P_c_Faults c_Book_Signed c_Book_Gatherings c_Items) fun (y21, y21_2, y21_3, y21_4, y21_5, y21_6, y21_7, y21_8, y21_9, y21_10, y21_11, y21_12, y21_13) =>
    andx (P_l_valid c_Book_Signed c_Book_Gatherings c_Items) fun y25 =>
      if y25 = true then
        seqx (
          andx (
            if ¬ y21_13 = 0 then
              some true
            else
              some (decide (¬ (((GSo y21_2 encI y21).l).length : Int) = (c_Items.length : Int)))) fun x47 =>
            if x47 = true then
              some (Ex.rt false)
            else
              some (Ex.nx ())) fun _ =>
          seqx (
            iter (P_law_CopyFewest_L1 c_Items y21 y21_2) 0) fun _ =>
            andx (P_r4_Of c_Book_Signed c_Book_Gatherings ((GSo y21_2 encI y21).l)) fun (y100, y100_2, y100_3, y100_4, y100_5, y100_6, y100_7) =>
              seqx (
                andx (
                  andx (P_r1_Ints y100_2 ((GSo y21_4 encI y21_3).l)) fun same105 =>
                    if same105 = true then
                      if ¬ y100_3 = y21_5 then
                        some true
                      else
                        andx (P_r1_Ints y100_4 ((GSo y21_7 encI y21_6).l)) fun same119 =>
                          if same119 = true then
                            andx (P_r1_Ints y100_5 ((GSo y21_9 encI y21_8).l)) fun same127 =>
                              if same127 = true then
                                chk (I64 (y21_5 + (((GSo y21_7 encI y21_6).l).length : Int))) (
                                  chk (I64 ((y21_5 + (((GSo y21_7 encI y21_6).l).length : Int)) + (((GSo y21_9 encI y21_8).l).length : Int))) (
                                    chk (I64 (((y21_5 + (((GSo y21_7 encI y21_6).l).length : Int)) + (((GSo y21_9 encI y21_8).l).length : Int)) + (((GSo y21_11 encI y21_10).l).length : Int))) (
                                      some (decide (¬ y21_12 = (((y21_5 + (((GSo y21_7 encI y21_6).l).length : Int)) + (((GSo y21_9 encI y21_8).l).length : Int)) + (((GSo y21_11 encI y21_10).l).length : Int)))))))
                              else
                                some true
                          else
                            some true
                    else
                      some true) fun x148 =>
                  if x148 = true then
                    some (Ex.rt false)
                  else
                    some (Ex.nx ())) fun _ =>
                andx (P_r4_Runs c_Book_Signed c_Book_Gatherings ((GSo y21_2 encI y21).l)) fun y153 =>
                  seqx (
                    iter (P_law_CopyFewest_L2 y21_10 y21_11 y153) ((-1), 0, 0)) fun moved =>
                    chk (-9223372036854775808 ≤ (n.toNat : Int) ∧ (n.toNat : Int) < 9223372036854775808) (
                      andx (P_r4_All c_Book_Signed c_Book_Gatherings c_Items) fun (y7, y7_2) =>
                        chk (0 < (((GSo y7_2 (encSl encI) (List.map (GSo true encI) y7)).l).length : Int)) (
                          el ((GSo y7_2 (encSl encI) (List.map (GSo true encI) y7)).l) (Int.tmod (n.toNat : Int) (((GSo y7_2 (encSl encI) (List.map (GSo true encI) y7)).l).length : Int)) fun a13 =>
                          andx (P_r4_Of c_Book_Signed c_Book_Gatherings a13.l) fun (y189, y189_2, y189_3, y189_4, y189_5, y189_6, y189_7) =>
                            andx (P_r4_Runs c_Book_Signed c_Book_Gatherings a13.l) fun y193 =>
                              chk (I64 (y189_3 + (y189_4.length : Int))) (
                                chk (I64 ((y189_3 + (y189_4.length : Int)) + (y189_5.length : Int))) (
                                  chk (I64 (((y189_3 + (y189_4.length : Int)) + (y189_5.length : Int)) + (y193.length : Int))) (
                                    andx (P_l_kept y193 bits) fun y209 =>
                                      chk (I64 ((((y189_3 + (y189_4.length : Int)) + (y189_5.length : Int)) + (y193.length : Int)) - (y209.length : Int))) (
                                        andx (
                                          if moved = (((GSo y21_11 encI y21_10).l).length : Int) then
                                            if y21_12 ≤ ((((y189_3 + (y189_4.length : Int)) + (y189_5.length : Int)) + (y193.length : Int)) - (y209.length : Int)) then
                                              some true
                                            else
                                              some false
                                          else
                                            some false) fun x6 =>
                                          some x6))))))
      else
        andx (
          if ¬ y21_13 = 0 then
            andx (P_r4_Same ((GSo y21_2 encI y21).l) ((GSo y21_4 encI y21_3).l) y21_5 ((GSo y21_7 encI y21_6).l) ((GSo y21_9 encI y21_8).l) ((GSo y21_11 encI y21_10).l) y21_12 [] [] 0 [] [] [] 0) fun y32 =>
              if y32 = true then
                some true
              else
                some false
          else
            some false) fun x6 =>
          some x6
end Go.Am
end
section
namespace Go.Am.YthckcbfijdambaaGreat
open Go.Am Go.RowKit
set_option linter.unusedVariables false
set_option linter.unusedSimpArgs false
set_option maxRecDepth 10000 in
theorem tf_l_valid {k : Nat} (hk : 5 ≤ k) {C : List Thing} {c_Book_Signed : Int} {v_c_Book_Gatherings : AV} {c_Book_Gatherings : List Gat} {v_c_Items : AV} {c_Items : List Item} (ht_c_Book_Gatherings : RdT encG v_c_Book_Gatherings c_Book_Gatherings) (ht_c_Items : RdT encIt v_c_Items c_Items) {r : Bool} (h : P_l_valid c_Book_Signed c_Book_Gatherings c_Items = some r) :
  TF (EL k) 15 [.agg [iv (c_Book_Signed), v_c_Book_Gatherings, v_c_Items]] C (RepF (fun (w : Unit) => bv r) (fun (w : Unit) => C)) := by
 unfold P_l_valid at h
 have h_c_Book_Gatherings : Rdl C encG v_c_Book_Gatherings c_Book_Gatherings := RdT.rdl ht_c_Book_Gatherings
 have h_c_Items : Rdl C encIt v_c_Items c_Items := RdT.rdl ht_c_Items;refine TF.enter (fn := Go.Proofs.Tryz.f15) rfl rfl rfl rfl rfl (zU rfl (zQ 3 [_,_,_] R7 (fun b1=>zA R4 (zN (zU rfl (zV R3 (vW 0 [_,_,_] R5 R4) ?_))))));obtain ⟨⟨y8, y8_2, y8_3⟩, hr8, h⟩ := andx_some h;dsimp only at h;obtain ⟨g, hgg, hrg⟩ := Rdl.reif (hs := .row b1 3 [iv (c_Book_Signed), v_c_Book_Gatherings, v_c_Items] :: C) h_c_Book_Gatherings M1 (ReifL.flat encG_tr);obtain ⟨g_2, hgg_2, hrg_2⟩ := Rdl.reif (hs := .row b1 3 [iv (c_Book_Signed), v_c_Book_Gatherings, v_c_Items] :: C) h_c_Items M1 (ReifL.flat encIt_tr);refine TO.call rfl rfl rfl rfl rfl (orcL rfl aD) (.cons (.agg (.cons .lit (.cons (hrg _) (.cons (hrg_2 _) .nil)))) .nil) (sem_of (w_r4_Check c_Book_Signed g g_2 _ (by try rw [hgg]; try rw [hgg_2]; exact hr8))) (zM R4 (zX R5 (zX R5 (zX R5 (zA R4 (zA R4 (zA R4 (zN (zU rfl (zM R4 ?_))))))))));obtain ⟨c13, hc13⟩ := zY (y8_3 = 0);refine zV R3 (Val.eql hc13 rfl rfl) (zA R4 (zN (zR ?_)));subst hc13;cases h;exact ⟨rfl, _, rfl, ⟨(), rfl, (pk [98] rfl)⟩⟩
theorem w_l_valid (c_Book_Signed : Int) (c_Book_Gatherings : GS encG) (c_Items : GS encIt) (r : Bool) (h : P_l_valid c_Book_Signed c_Book_Gatherings.l c_Items.l = some r) : Comes (EL 5) 15 [.agg [iv (c_Book_Signed), c_Book_Gatherings.v, c_Items.v]] (bv r) :=
 TF.run (tf_l_valid (Nat.le_refl _) (RdT.gs c_Book_Gatherings) (RdT.gs c_Items) h) fun w => .lit
set_option maxRecDepth 10000 in
theorem tf_l_kept {k : Nat} (hk : 0 ≤ k) {C : List Thing} {v_runs : AV} {runs : List S_duodecimoref04_Run} {v_bits : AV} {bits : List UInt8} (ht_runs : RdT enc_duodecimoref04_Run v_runs runs) (ht_bits : RdT encU8 v_bits bits) {r : (List Int)} (h : P_l_kept runs bits = some r) :
  TF (EL k) 27 [v_runs, v_bits] C (RepF (fun (w : AV) => w) (fun (w : AV) => ownL true w encI r :: C)) := by
 unfold P_l_kept at h
 have h_runs : Rdl C enc_duodecimoref04_Run v_runs runs := RdT.rdl ht_runs
 have h_bits : Rdl C encU8 v_bits bits := RdT.rdl ht_bits;refine TF.enter (fn := Go.Proofs.Tryz.f27) rfl rfl rfl rfl rfl (zU rfl (zA R4 (zN (zU rfl (zA R4 (zN (zU rfl (zA R4 (zN ?_)))))))))
 show T _ _ _ _ _ _;apply T.joinA (r := r) (W := AV) (fun j w => ⟨[], [(5, w)], ownL true w encI j :: C⟩) h
 ·intro j h;refine zU rfl (zA R4 (zN (zB (T.nilown (u := encI.u) ?_))))
  show T _ _ _ _ _ _;apply T.iter (r := j) (W := AV) (fun j w => ⟨[], [(0, v_runs), (1, v_bits), (5, w), (6, iv (j.1)), (7, iv (j.2.1))], ownL true w encI j.2.2 :: C⟩) (w0 := nilS) h
  ·exact (sb .refl)
  rintro ⟨last, i, out⟩ v1 a h;unfold P_l_kept_L1 at h;dsimp only at h;dsimp only;refine zS (zU rfl (zM R4 (zM R4 (zV R3 (Val.len_l h_runs M1 rfl rfl) ?_))));obtain ⟨c11, hc11⟩ := zY (i < (runs.length : Int));refine zV R3 (Val.lss hc11 rfl rfl) (zN ?_);obtain ⟨rfl, hc11, h⟩ | ⟨rfl, hc11, h⟩ := zI hc11 h
  ·refine zC rfl (zK ?_)
   show T _ _ _ _ _ _;apply T.joinA (r := a) (W := AV) (fun j w => ⟨[], [(0, v_runs), (1, v_bits), (5, w), (6, iv (j.1)), (7, iv (i))], ownL true w encI j.2 :: C⟩) h
   ·intro j h;refine zB ?_
    show T _ _ _ _ _ _;apply T.joinA (r := j) (W := Unit) (fun j w => ⟨[], [(0, v_runs), (1, v_bits), (5, v1), (6, iv (last)), (7, iv (i)), (36, bv j)], ownL true v1 encI out :: C⟩) h
    ·intro j h;refine zT rfl (zM R4 (zV R3 (Val.len_l h_bits M1 rfl rfl) ?_));obtain ⟨c16, hc16⟩ := zY ((bits.length : Int) > 0);refine zV R3 (Val.gtr hc16 rfl rfl) (zM R4 ?_);obtain ⟨rfl, hc16, h⟩ | ⟨rfl, hc16, h⟩ := zI hc16 h
     ·refine zM R4 (zM R4 (zM R4 (zV R3 (Val.len_l h_bits M1 rfl rfl) ?_)));obtain ⟨hk22, h⟩ := chk_some h;refine zV R3 (Val.rem rfl rfl hk22) ?_;obtain ⟨a23, hia23, ea23, h⟩ := el_some h;refine TO.fact (rdl_at h_bits M1 hia23 ea23) (fun hp=>?_);obtain ⟨pa23, hpa23, hva23⟩ := hp;refine zV R3 (hva23 ⟨rfl, rfl⟩ rfl rfl) (zV R3 (Val.load_e hpa23 M1 ⟨_, rfl, rfl⟩ rfl rfl) ?_);obtain ⟨hk25, h⟩ := chk_some h;refine zV R3 (Val.remK rfl rfl hk25) ?_;obtain ⟨c26, hc26⟩ := zY ((Int.tmod (a23.toNat : Int) 2) = 1);refine zV R3 (Val.eqlK hc26 rfl rfl) (zP R6 (zM R4 ?_));obtain ⟨rfl, hc26, h⟩ | ⟨rfl, hc26, h⟩ := zI hc26 h
      ·refine zM R4 (zM R4 ?_);obtain ⟨a31, hia31, ea31, h⟩ := el_some h;refine TO.fact (rdl_at h_runs M1 hia31 ea31) (fun hp=>?_);obtain ⟨pa31, hpa31, hva31⟩ := hp;refine zV R3 (hva31 ⟨rfl, rfl⟩ rfl rfl) (zV R3 (Val.faddr_e (fo := 1) hpa31 rfl rfl rfl) (zV R3 (Val.load_e (PtE.add hpa31 (by decide)) M1 ⟨_, rfl, rfl⟩ rfl rfl) (zM R4 ?_)));obtain ⟨c35, hc35⟩ := zY (a31.first > last);refine zV R3 (Val.gtr hc35 rfl rfl) (zP R6 (zN ?_));subst hc35;cases h;exact ⟨rfl, (), (sb .refl)⟩
      refine zO R3 (zO R3 (zO R3 (zO R3 (zO R3 (zO R3 (zO R3 (zP R6 (zN ?_))))))));cases h;exact ⟨rfl, (), (sb .refl)⟩
     refine zO R3 (zO R3 (zO R3 (zO R3 (zO R3 (zO R3 (zO R3 (zO R3 (zO R3 (zP R6 (zM R4 (zO R3 (zO R3 (zO R3 (zO R3 (zO R3 (zO R3 (zO R3 (zP R6 (zN ?_)))))))))))))))))));cases h;exact ⟨rfl, (), (sb .refl)⟩
    ·rintro x36 _ h;obtain ⟨rfl, h⟩ | ⟨rfl, h⟩ := zZ h
     ·refine zC rfl (zU rfl (zM R4 (zM R4 (TO.build1 (en := encI) (a := i) rfl rfl rfl ⟨rfl, rfl⟩ ⟨_, rfl, rfl⟩ (by decide) (by decide) rfl rfl (fun v39=>?_)))));obtain ⟨hk40, h⟩ := chk_some h;refine TO.eff rfl rfl rfl (Eff.append_own (b := 8) (en := encI) (l := out) (l2 := [i]) (p := 1) (q := 0) ⟨rfl, rfl, rfl, ⟨_, rfl, rfl⟩, by decide, by decide⟩ rfl rfl rfl rfl rfl rfl (flat_ones _) (by decide) hk40) ?_;rintro v40 _ rfl;refine zG (_::_::C) rfl (zA R4 (zN (zT rfl (zM R4 (zM R4 ?_)))));obtain ⟨a43, hia43, ea43, h⟩ := el_some h;refine TO.fact (rdl_at h_runs M2 hia43 ea43) (fun hp=>?_);obtain ⟨pa43, hpa43, hva43⟩ := hp;refine zV R3 (hva43 ⟨rfl, rfl⟩ rfl rfl) (zV R3 (Val.faddr_e (fo := 2) hpa43 rfl rfl rfl) (zV R3 (Val.load_e (PtE.add hpa43 (by decide)) M2 ⟨_, rfl, rfl⟩ rfl rfl) (zA R4 (zN ?_))));cases h;exact ⟨rfl, v40, (sb (pk [1,98] rfl))⟩
     refine zD rfl (zK ?_);cases h;exact ⟨rfl, v1, (sb .refl)⟩
   ·rintro ⟨last_2, out_2⟩ v1_2 h;dsimp only at h;dsimp only;refine zT rfl (zM R4 ?_);obtain ⟨hk13, h⟩ := chk_some h;refine zV R3 (Val.add rfl rfl hk13) (zA R4 (zN ?_));cases h;exact ⟨rfl, v1_2, (sb .refl)⟩
  refine zD rfl (zE ?_);cases h;exact ⟨ex_ne, ⟨rfl, v1, (sb .refl)⟩⟩
 ·rintro out v1 h;refine zU rfl (zM R4 (zA R4 (zN (zR ?_))));cases h;exact ⟨rfl, _, rfl, ⟨v1, rfl, .refl⟩⟩
theorem w_l_kept (runs : GS enc_duodecimoref04_Run) (bits : GS encU8) (r : (List Int)) (h : P_l_kept runs.l bits.l = some r) : Comes (EL 0) 27 [runs.v, bits.v] ((GSo true encI r).v) :=
 TF.run (tf_l_kept (Nat.le_refl _) (RdT.gs runs) (RdT.gs bits) h) fun w => (.ownL (en := encI) (p := 0) rfl (.lits encI_lits))
set_option maxRecDepth 10000 in
theorem tf_law_CopyFewest {k : Nat} (hk : 6 ≤ k) {C : List Thing} {c_Book_Signed : Int} {v_c_Book_Gatherings : AV} {c_Book_Gatherings : List Gat} {v_c_Items : AV} {c_Items : List Item} {n : UInt16} {v_bits : AV} {bits : List UInt8} (ht_c_Book_Gatherings : RdT encG v_c_Book_Gatherings c_Book_Gatherings) (ht_c_Items : RdT encIt v_c_Items c_Items) (ht_bits : RdT encU8 v_bits bits) {r : Bool} (h : P_law_CopyFewest c_Book_Signed c_Book_Gatherings c_Items n bits = some r) :
  TF (EL k) 5 [.agg [iv (c_Book_Signed), v_c_Book_Gatherings, v_c_Items], ivk .u16 ((n.toNat : Int)), v_bits] C (RepF (fun (w : Unit) => bv r) (fun (w : Unit) => C)) := by
 unfold P_law_CopyFewest at h
 have h_c_Book_Gatherings : Rdl C encG v_c_Book_Gatherings c_Book_Gatherings := RdT.rdl ht_c_Book_Gatherings
 have h_c_Items : Rdl C encIt v_c_Items c_Items := RdT.rdl ht_c_Items
 have h_bits : Rdl C encU8 v_bits bits := RdT.rdl ht_bits;refine TF.enter (fn := Go.Proofs.Tryz.f5) rfl rfl rfl rfl rfl (zU rfl (zQ 3 [_,_,_] R7 (fun b3=>zA R4 (zN (zU rfl (zV R3 (vW 0 [_,_,_] R5 R4) ?_))))));obtain ⟨⟨y21, y21_2, y21_3, y21_4, y21_5, y21_6, y21_7, y21_8, y21_9, y21_10, y21_11, y21_12, y21_13⟩, hr21, h⟩ := andx_some h;dsimp only at h;obtain ⟨g, hgg, hrg⟩ := Rdl.reif (hs := .row b3 3 [iv (c_Book_Signed), v_c_Book_Gatherings, v_c_Items] :: C) h_c_Book_Gatherings M1 (ReifL.flat encG_tr);obtain ⟨g_2, hgg_2, hrg_2⟩ := Rdl.reif (hs := .row b3 3 [iv (c_Book_Signed), v_c_Book_Gatherings, v_c_Items] :: C) h_c_Items M1 (ReifL.flat encIt_tr);refine TO.call rfl rfl rfl rfl rfl (orcL rfl aD) (.cons (.agg (.cons .lit (.cons (hrg _) (.cons (hrg_2 _) .nil)))) .nil) (sem_of (w_c_Faults c_Book_Signed g g_2 _ (by try rw [hgg]; try rw [hgg_2]; exact hr21))) (zM R4 (zX R5 (zX R5 (zJ 7 [_,_,_,_,_,_,_] R7 (fun b7=>TO.eff0 rfl rfl (Eff.store_row (p := 0) (cv := [_, _, _, _, _, _, _]) (cells' := [_, _, _, _, _, _, _]) rfl rfl rfl rfl rfl rfl rfl rfl aG (by decide) rfl) ?_)))));rintro _ rfl;refine zG (_::_::C) rfl (zA R4 (zN (zS (zU rfl (zV R3 (vW 1 [_,_,_] R5 R4) ?_)))));obtain ⟨y25, hr25, h⟩ := andx_some h;obtain ⟨g_3, hgg_3, hrg_3⟩ := Rdl.reif (hs := .row b7 7 [(GSo y21_2 encI y21).v, (GSo y21_4 encI y21_3).v, iv (y21_5), (GSo y21_7 encI y21_6).v, (GSo y21_9 encI y21_8).v, (GSo y21_11 encI y21_10).v, iv (y21_12)] :: .row b3 3 [iv (c_Book_Signed), v_c_Book_Gatherings, v_c_Items] :: C) h_c_Book_Gatherings M2 (ReifL.flat encG_tr);obtain ⟨g_4, hgg_4, hrg_4⟩ := Rdl.reif (hs := .row b7 7 [(GSo y21_2 encI y21).v, (GSo y21_4 encI y21_3).v, iv (y21_5), (GSo y21_7 encI y21_6).v, (GSo y21_9 encI y21_8).v, (GSo y21_11 encI y21_10).v, iv (y21_12)] :: .row b3 3 [iv (c_Book_Signed), v_c_Book_Gatherings, v_c_Items] :: C) h_c_Items M2 (ReifL.flat encIt_tr);refine TO.call rfl rfl rfl rfl rfl (orcL rfl aD) (.cons (.agg (.cons .lit (.cons (hrg_3 _) (.cons (hrg_4 _) .nil)))) .nil) (sem_of (w_l_valid c_Book_Signed g_3 g_4 _ (by try rw [hgg_3]; try rw [hgg_4]; exact hr25))) (zV R3 (Val.not rfl) (zN ?_));obtain ⟨rfl, h⟩ | ⟨rfl, h⟩ := zZ h
 ·refine zD rfl (zK ?_)
  show T _ _ _ _ _ _;apply T.join (r := r) (W := Unit) (fun j w => ⟨[], [(1, ivk .u16 ((n.toNat : Int))), (2, v_bits), (3, .ptr b3 0 3), (7, .ptr b7 0 7)], .row b7 7 [(GSo y21_2 encI y21).v, (GSo y21_4 encI y21_3).v, iv (y21_5), (GSo y21_7 encI y21_6).v, (GSo y21_9 encI y21_8).v, (GSo y21_11 encI y21_10).v, iv (y21_12)] :: .row b3 3 [iv (c_Book_Signed), v_c_Book_Gatherings, v_c_Items] :: C⟩) h
  ·intro j h
   show T _ _ _ _ _ _;apply T.joinA (r := j) (W := Unit) (fun j w => ⟨[], [(1, ivk .u16 ((n.toNat : Int))), (2, v_bits), (3, .ptr b3 0 3), (7, .ptr b7 0 7), (47, bv j)], .row b7 7 [(GSo y21_2 encI y21).v, (GSo y21_4 encI y21_3).v, iv (y21_5), (GSo y21_7 encI y21_6).v, (GSo y21_9 encI y21_8).v, (GSo y21_11 encI y21_10).v, iv (y21_12)] :: .row b3 3 [iv (c_Book_Signed), v_c_Book_Gatherings, v_c_Items] :: C⟩) h
   ·intro j h;refine zT rfl (zM R4 ?_);obtain ⟨c38, hc38⟩ := zY (¬ y21_13 = 0);refine zV R3 (Val.neq hc38 rfl rfl) (zM R4 ?_);obtain ⟨rfl, hc38, h⟩ | ⟨rfl, hc38, h⟩ := zI hc38 h
    ·refine zO R3 (zO R3 (zO R3 (zO R3 (zO R3 (zO R3 (zO R3 (zP R6 (zN ?_))))))));cases h;exact ⟨rfl, (), (sb .refl)⟩
    refine zF 0 R6 (zL 0 R3 R6 (zV R3 (Val.len_gs rfl rfl) (zF 2 R6 (zL 1 R3 R6 (zV R3 (Val.len_l h_c_Items M2 rfl rfl) ?_)))));obtain ⟨c46, hc46⟩ := zY (¬ (((GSo y21_2 encI y21).l).length : Int) = (c_Items.length : Int));refine zV R3 (Val.neq hc46 rfl rfl) (zP R6 (zN ?_));subst hc46;cases h;exact ⟨rfl, (), (sb .refl)⟩
   ·rintro x47 _ h;obtain ⟨rfl, h⟩ | ⟨rfl, h⟩ := zZ h
    ·refine zC rfl (zU rfl (zA R4 (zN (zR ?_))));cases h;exact ⟨ret_ne, ⟨rfl, _, rfl, ⟨(), rfl, (pk [98,98] rfl)⟩⟩⟩
    refine zD rfl (zK ?_);cases h;exact ⟨rfl, (), (sb .refl)⟩
  ·rintro _ _ h
   show T _ _ _ _ _ _;apply T.join (r := r) (W := Unit) (fun j w => ⟨[], [(1, ivk .u16 ((n.toNat : Int))), (2, v_bits), (3, .ptr b3 0 3), (7, .ptr b7 0 7)], .row b7 7 [(GSo y21_2 encI y21).v, (GSo y21_4 encI y21_3).v, iv (y21_5), (GSo y21_7 encI y21_6).v, (GSo y21_9 encI y21_8).v, (GSo y21_11 encI y21_10).v, iv (y21_12)] :: .row b3 3 [iv (c_Book_Signed), v_c_Book_Gatherings, v_c_Items] :: C⟩) h
   ·intro j h;refine zU rfl (zA R4 (zN (zB ?_)))
    show T _ _ _ _ _ _;apply T.iter (r := j) (W := Unit) (fun j w => ⟨[], [(1, ivk .u16 ((n.toNat : Int))), (2, v_bits), (3, .ptr b3 0 3), (7, .ptr b7 0 7), (9, iv (j))], .row b7 7 [(GSo y21_2 encI y21).v, (GSo y21_4 encI y21_3).v, iv (y21_5), (GSo y21_7 encI y21_6).v, (GSo y21_9 encI y21_8).v, (GSo y21_11 encI y21_10).v, iv (y21_12)] :: .row b3 3 [iv (c_Book_Signed), v_c_Book_Gatherings, v_c_Items] :: C⟩) (w0 := ()) h
    ·exact (sb .refl)
    rintro i _ a h;unfold P_law_CopyFewest_L1 at h;refine zS (zU rfl (zM R4 (zF 0 R6 (zL 0 R3 R6 (zV R3 (Val.len_gs rfl rfl) ?_)))));obtain ⟨c52, hc52⟩ := zY (i < (((GSo y21_2 encI y21).l).length : Int));refine zV R3 (Val.lss hc52 rfl rfl) (zN ?_);obtain ⟨rfl, hc52, h⟩ | ⟨rfl, hc52, h⟩ := zI hc52 h
    ·refine zC rfl (zK ?_)
     show T _ _ _ _ _ _;apply T.join (r := a) (W := Unit) (fun j w => ⟨[], [(1, ivk .u16 ((n.toNat : Int))), (2, v_bits), (3, .ptr b3 0 3), (7, .ptr b7 0 7), (9, iv (i))], .row b7 7 [(GSo y21_2 encI y21).v, (GSo y21_4 encI y21_3).v, iv (y21_5), (GSo y21_7 encI y21_6).v, (GSo y21_9 encI y21_8).v, (GSo y21_11 encI y21_10).v, iv (y21_12)] :: .row b3 3 [iv (c_Book_Signed), v_c_Book_Gatherings, v_c_Items] :: C⟩) h
     ·intro j h;refine zB ?_
      show T _ _ _ _ _ _;apply T.joinA (r := j) (W := Unit) (fun j w => ⟨[], [(1, ivk .u16 ((n.toNat : Int))), (2, v_bits), (3, .ptr b3 0 3), (7, .ptr b7 0 7), (9, iv (i)), (95, bv j)], .row b7 7 [(GSo y21_2 encI y21).v, (GSo y21_4 encI y21_3).v, iv (y21_5), (GSo y21_7 encI y21_6).v, (GSo y21_9 encI y21_8).v, (GSo y21_11 encI y21_10).v, iv (y21_12)] :: .row b3 3 [iv (c_Book_Signed), v_c_Book_Gatherings, v_c_Items] :: C⟩) h
      ·intro j h;refine T.draw (fun v => sameC_refl v) (l1 := [0, 1, 2, 3, 4, 5, 6, 7, 8, 9, 10, 11, 12, 13, 14, 15, 16, 17, 18, 19, 20, 21, 22, 23, 24, 25, 26, 27, 28, 29, 30, 31, 32, 33, 34, 35, 36]) (l2 := [37, 38, 39, 40]) (by kernel_rfl) (by kernel_rfl) (zF 2 R6 (zL 1 R3 R6 (zM R4 ?_)));obtain ⟨a58, hia58, ea58, h⟩ := el_some h;refine TO.fact (rdl_at h_c_Items M2 hia58 ea58) (fun hp=>?_);obtain ⟨pa58, hpa58, hva58⟩ := hp;refine zV R3 (hva58 ⟨rfl, rfl⟩ rfl rfl) (zV R3 (Val.faddr_e (fo := 0) hpa58 rfl rfl rfl) (zV R3 (Val.load_e (PtE.add hpa58 (by decide)) M2 ⟨_, rfl, rfl⟩ rfl rfl) (zV R3 (Val.len_gs rfl rfl) ?_)));obtain ⟨c62, hc62⟩ := zY ((a58.could.l.length : Int) = 0);refine zV R3 (Val.eql hc62 rfl rfl) (zM R4 ?_);obtain ⟨rfl, hc62, h⟩ | ⟨rfl, hc62, h⟩ := zI hc62 h
       ·refine zF 0 R6 (zL 0 R3 R6 (zM R4 ?_));obtain ⟨a67, hia67, ea67, h⟩ := el_some h;refine TO.fact (rdl_at (Rdl.gs (C := C) (GSo y21_2 encI y21)) M2 hia67 ea67) (fun hp=>?_);obtain ⟨pa67, hpa67, hva67⟩ := hp;refine zV R3 (hva67 ⟨rfl, rfl⟩ rfl rfl) (zV R3 (Val.load_e hpa67 M2 ⟨_, rfl, rfl⟩ rfl rfl) ?_);obtain ⟨c69, hc69⟩ := zY (¬ a67 = (-1));refine zV R3 (Val.neq hc69 rfl rfl) (zP R6 (zM R4 ?_));obtain ⟨rfl, hc69, h⟩ | ⟨rfl, hc69, h⟩ := zI hc69 h
        ·refine zO R3 (zO R3 (zO R3 (zO R3 (zO R3 (zO R3 (zO R3 (zO R3 (zO R3 (zO R3 (zO R3 (zO R3 (zO R3 (zO R3 (zO R3 (zO R3 (zO R3 (zO R3 (zO R3 (zO R3 (zO R3 (zO R3 (zO R3 (zP R6 (zN ?_))))))))))))))))))))))));cases h;exact ⟨rfl, (), (sb .refl)⟩
        refine zF 2 R6 (zL 1 R3 R6 (zM R4 ?_));obtain ⟨a75, hia75, ea75, h⟩ := el_some h;refine TO.fact (rdl_at h_c_Items M2 hia75 ea75) (fun hp=>?_);obtain ⟨pa75, hpa75, hva75⟩ := hp;refine zV R3 (hva75 ⟨rfl, rfl⟩ rfl rfl) (zV R3 (Val.faddr_e (fo := 0) hpa75 rfl rfl rfl) (zV R3 (Val.load_e (PtE.add hpa75 (by decide)) M2 ⟨_, rfl, rfl⟩ rfl rfl) (zV R3 (Val.len_gs rfl rfl) ?_)));obtain ⟨c79, hc79⟩ := zY ((a75.could.l.length : Int) > 0);refine zV R3 (Val.gtr hc79 rfl rfl) (zM R4 ?_);obtain ⟨rfl, hc79, h⟩ | ⟨rfl, hc79, h⟩ := zI hc79 h
        ·refine zF 2 R6 (zL 1 R3 R6 (zM R4 ?_));obtain ⟨a84, hia84, ea84, h⟩ := el_some h;refine TO.fact (rdl_at h_c_Items M2 hia84 ea84) (fun hp=>?_);obtain ⟨pa84, hpa84, hva84⟩ := hp;refine zV R3 (hva84 ⟨rfl, rfl⟩ rfl rfl) (zV R3 (Val.faddr_e (fo := 0) hpa84 rfl rfl rfl) (zV R3 (Val.load_e (PtE.add hpa84 (by decide)) M2 ⟨_, rfl, rfl⟩ rfl rfl) (zF 0 R6 (zL 0 R3 R6 (zM R4 ?_)))));obtain ⟨a90, hia90, ea90, h⟩ := el_some h;refine TO.fact (rdl_at (Rdl.gs (C := C) (GSo y21_2 encI y21)) M2 hia90 ea90) (fun hp=>?_);obtain ⟨pa90, hpa90, hva90⟩ := hp;refine zV R3 (hva90 ⟨rfl, rfl⟩ rfl rfl) (zV R3 (Val.load_e hpa90 M2 ⟨_, rfl, rfl⟩ rfl rfl) ?_);obtain ⟨has92, hr92, h⟩ := andx_some h;refine TO.call rfl rfl rfl rfl rfl (orcL rfl aD) (.cons .gs (.cons .lit .nil)) (sem_of (w_r1_Has a84.could a90 _ (by exact hr92))) (zV R3 (Val.not rfl) (zP R6 (zP R6 (zN ?_))));cases h;exact ⟨rfl, (), (sb .refl)⟩
        refine zO R3 (zO R3 (zO R3 (zO R3 (zO R3 (zO R3 (zO R3 (zO R3 (zO R3 (zO R3 (zO R3 (zO R3 (zO R3 (zP R6 (zP R6 (zN ?_)))))))))))))));cases h;exact ⟨rfl, (), (sb .refl)⟩
       refine zO R3 (zO R3 (zO R3 (zO R3 (zO R3 (zO R3 (zP R6 (zM R4 (zF 2 R6 (zL 1 R3 R6 (zM R4 ?_))))))))));obtain ⟨a75, hia75, ea75, h⟩ := el_some h;refine TO.fact (rdl_at h_c_Items M2 hia75 ea75) (fun hp=>?_);obtain ⟨pa75, hpa75, hva75⟩ := hp;refine zV R3 (hva75 ⟨rfl, rfl⟩ rfl rfl) (zV R3 (Val.faddr_e (fo := 0) hpa75 rfl rfl rfl) (zV R3 (Val.load_e (PtE.add hpa75 (by decide)) M2 ⟨_, rfl, rfl⟩ rfl rfl) (zV R3 (Val.len_gs rfl rfl) ?_)));obtain ⟨c79, hc79⟩ := zY ((a75.could.l.length : Int) > 0);refine zV R3 (Val.gtr hc79 rfl rfl) (zM R4 ?_);obtain ⟨rfl, hc79, h⟩ | ⟨rfl, hc79, h⟩ := zI hc79 h
       ·refine zF 2 R6 (zL 1 R3 R6 (zM R4 ?_));obtain ⟨a84, hia84, ea84, h⟩ := el_some h;refine TO.fact (rdl_at h_c_Items M2 hia84 ea84) (fun hp=>?_);obtain ⟨pa84, hpa84, hva84⟩ := hp;refine zV R3 (hva84 ⟨rfl, rfl⟩ rfl rfl) (zV R3 (Val.faddr_e (fo := 0) hpa84 rfl rfl rfl) (zV R3 (Val.load_e (PtE.add hpa84 (by decide)) M2 ⟨_, rfl, rfl⟩ rfl rfl) (zF 0 R6 (zL 0 R3 R6 (zM R4 ?_)))));obtain ⟨a90, hia90, ea90, h⟩ := el_some h;refine TO.fact (rdl_at (Rdl.gs (C := C) (GSo y21_2 encI y21)) M2 hia90 ea90) (fun hp=>?_);obtain ⟨pa90, hpa90, hva90⟩ := hp;refine zV R3 (hva90 ⟨rfl, rfl⟩ rfl rfl) (zV R3 (Val.load_e hpa90 M2 ⟨_, rfl, rfl⟩ rfl rfl) ?_);obtain ⟨has92, hr92, h⟩ := andx_some h;refine TO.call rfl rfl rfl rfl rfl (orcL rfl aD) (.cons .gs (.cons .lit .nil)) (sem_of (w_r1_Has a84.could a90 _ (by exact hr92))) (zV R3 (Val.not rfl) (zP R6 (zP R6 (zN ?_))));cases h;exact ⟨rfl, (), (sb .refl)⟩
       refine zO R3 (zO R3 (zO R3 (zO R3 (zO R3 (zO R3 (zO R3 (zO R3 (zO R3 (zO R3 (zO R3 (zO R3 (zO R3 (zP R6 (zP R6 (zN ?_)))))))))))))));cases h;exact ⟨rfl, (), (sb .refl)⟩
      ·rintro x95 _ h;obtain ⟨rfl, h⟩ | ⟨rfl, h⟩ := zZ h
       ·refine zC rfl (zU rfl (zA R4 (zN (zR ?_))));cases h;exact ⟨ret_ne, ⟨ret_ne, ⟨ret_ne, ⟨rfl, _, rfl, ⟨(), rfl, (pk [98,98] rfl)⟩⟩⟩⟩⟩
       refine zD rfl (zK ?_);cases h;exact ⟨rfl, (), (sb .refl)⟩
     ·rintro _ _ h;refine zT rfl (zM R4 ?_);obtain ⟨hk54, h⟩ := chk_some h;refine zV R3 (Val.add rfl rfl hk54) (zA R4 (zN ?_));cases h;exact ⟨rfl, (), (sb .refl)⟩
    refine zD rfl (zE ?_);cases h;exact ⟨ex_ne, ⟨rfl, (), (sb .refl)⟩⟩
   ·rintro _ _ h;refine zU rfl (zF 0 R6 (zV R3 (vW 1 [_,_] R5 R4) (zF 0 R6 (zL 0 R3 R6 ?_))));obtain ⟨⟨y100, y100_2, y100_3, y100_4, y100_5, y100_6, y100_7⟩, hr100, h⟩ := andx_some h;dsimp only at h;refine TO.callT (first := []) (cap := []) (vs := [.agg [iv (c_Book_Signed), v_c_Book_Gatherings], (GSo y21_2 encI y21).v]) rfl rfl rfl rfl rfl rfl (orcN rfl) (tf_r4_Of aD (Rdl.mono h_c_Book_Gatherings M2) (Rdl.mono (Rdl.gs (C := C) (GSo y21_2 encI y21)) M2) hr100) ?_;rintro ⟨w100, w100_2, w100_3, w100_4, w100_5⟩;refine zG (_::_::_::_::_::_::_::C) rfl (zJ 7 [_,_,_,_,_,_,_] R7 (fun b10=>TO.fact (own_cellS (p := 1) rfl) (fun hot3=>TO.fact (own_cellS (p := 2) rfl) (fun hot4=>TO.fact (own_cellS (p := 3) rfl) (fun hot5=>TO.fact (own_cellS (p := 4) rfl) (fun hot6=>TO.fact (own_cellS (p := 5) rfl) (fun hot7=>TO.eff0 rfl rfl (Eff.store_row (p := 0) (cv := [_, _, _, _, _, _, _]) (cells' := [_, _, _, _, _, _, _]) rfl rfl rfl rfl rfl rfl rfl rfl (by first | rfl | (simp [GS.one, hot3.2, hot4.2, hot5.2, hot6.2, hot7.2]; done) | (simp [GS.one, hot3.2, hot4.2, hot5.2, hot6.2, hot7.2]; (repeat' apply And.intro) <;> rfl)) (by decide) rfl) ?_)))))));rintro _ rfl;refine zG (_::_::_::_::_::_::_::_::C) rfl (zN ?_)
    show T _ _ _ _ _ _;apply T.join (r := r) (W := Unit) (fun j w => ⟨[], [(1, ivk .u16 ((n.toNat : Int))), (2, v_bits), (3, .ptr b3 0 3), (7, .ptr b7 0 7)], .row b10 7 [w100, w100_2, iv (y100_3), w100_3, w100_4, w100_5, iv (y100_7)] :: ownL false w100 encI y100 :: ownL true w100_2 encI y100_2 :: ownL true w100_3 encI y100_4 :: ownL true w100_4 encI y100_5 :: ownL true w100_5 encI y100_6 :: .row b7 7 [(GSo y21_2 encI y21).v, (GSo y21_4 encI y21_3).v, iv (y21_5), (GSo y21_7 encI y21_6).v, (GSo y21_9 encI y21_8).v, (GSo y21_11 encI y21_10).v, iv (y21_12)] :: .row b3 3 [iv (c_Book_Signed), v_c_Book_Gatherings, v_c_Items] :: C⟩) h
    ·intro j h
     show T _ _ _ _ _ _;apply T.joinA (r := j) (W := Unit) (fun j w => ⟨[], [(1, ivk .u16 ((n.toNat : Int))), (2, v_bits), (3, .ptr b3 0 3), (7, .ptr b7 0 7), (148, bv j)], .row b10 7 [w100, w100_2, iv (y100_3), w100_3, w100_4, w100_5, iv (y100_7)] :: ownL false w100 encI y100 :: ownL true w100_2 encI y100_2 :: ownL true w100_3 encI y100_4 :: ownL true w100_4 encI y100_5 :: ownL true w100_5 encI y100_6 :: .row b7 7 [(GSo y21_2 encI y21).v, (GSo y21_4 encI y21_3).v, iv (y21_5), (GSo y21_7 encI y21_6).v, (GSo y21_9 encI y21_8).v, (GSo y21_11 encI y21_10).v, iv (y21_12)] :: .row b3 3 [iv (c_Book_Signed), v_c_Book_Gatherings, v_c_Items] :: C⟩) h
     ·intro j h;refine zT rfl (zF 1 R6 (zL 0 R3 R6 (zF 1 R6 (zL 6 R3 R6 ?_))));obtain ⟨same105, hr105, h⟩ := andx_some h;refine TO.call rfl rfl rfl rfl rfl (orcL rfl aD) (.cons (.ownL (p := 2) rfl ((ReifL.flat encI_tr) _ _)) (.cons .gs .nil)) (sem_of (w_r1_Ints (GSo true encI y100_2) (GSo y21_4 encI y21_3) _ (by exact hr105))) (zV R3 (Val.not rfl) (zM R4 ?_));obtain ⟨rfl, h⟩ | ⟨rfl, h⟩ := zZ h
      ·refine zF 2 R6 (zL 0 R3 R6 (zF 2 R6 (zL 6 R3 R6 ?_)));obtain ⟨c112, hc112⟩ := zY (¬ y100_3 = y21_5);refine zV R3 (Val.neq hc112 rfl rfl) (zP R6 (zM R4 ?_));obtain ⟨rfl, hc112, h⟩ | ⟨rfl, hc112, h⟩ := zI hc112 h
       ·refine zO R3 (zO R3 (zO R3 (zO R3 (zO R3 (zO R3 (zP R6 (zM R4 (zO R3 (zO R3 (zO R3 (zO R3 (zO R3 (zO R3 (zP R6 (zM R4 (zO R3 (zO R3 (zO R3 (zO R3 (zO R3 (zO R3 (zO R3 (zO R3 (zO R3 (zO R3 (zO R3 (zO R3 (zO R3 (zO R3 (zO R3 (zO R3 (zO R3 (zP R6 (zN ?_))))))))))))))))))))))))))))))))));cases h;exact ⟨rfl, (), (sb .refl)⟩
       refine zF 3 R6 (zL 0 R3 R6 (zF 3 R6 (zL 6 R3 R6 ?_)));obtain ⟨same119, hr119, h⟩ := andx_some h;refine TO.call rfl rfl rfl rfl rfl (orcL rfl aD) (.cons (.ownL (p := 3) rfl ((ReifL.flat encI_tr) _ _)) (.cons .gs .nil)) (sem_of (w_r1_Ints (GSo true encI y100_4) (GSo y21_7 encI y21_6) _ (by exact hr119))) (zV R3 (Val.not rfl) (zP R6 (zM R4 ?_)));obtain ⟨rfl, h⟩ | ⟨rfl, h⟩ := zZ h
       ·refine zF 4 R6 (zL 0 R3 R6 (zF 4 R6 (zL 6 R3 R6 ?_)));obtain ⟨same127, hr127, h⟩ := andx_some h;refine TO.call rfl rfl rfl rfl rfl (orcL rfl aD) (.cons (.ownL (p := 4) rfl ((ReifL.flat encI_tr) _ _)) (.cons .gs .nil)) (sem_of (w_r1_Ints (GSo true encI y100_5) (GSo y21_9 encI y21_8) _ (by exact hr127))) (zV R3 (Val.not rfl) (zP R6 (zM R4 ?_)));obtain ⟨rfl, h⟩ | ⟨rfl, h⟩ := zZ h
        ·refine zF 6 R6 (zL 6 R3 R6 (zF 2 R6 (zL 6 R3 R6 (zF 3 R6 (zL 6 R3 R6 (zV R3 (Val.len_gs rfl rfl) ?_))))));obtain ⟨hk138, h⟩ := chk_some h;refine zV R3 (Val.add rfl rfl hk138) (zF 4 R6 (zL 6 R3 R6 (zV R3 (Val.len_gs rfl rfl) ?_)));obtain ⟨hk142, h⟩ := chk_some h;refine zV R3 (Val.add rfl rfl hk142) (zF 5 R6 (zL 6 R3 R6 (zV R3 (Val.len_gs rfl rfl) ?_)));obtain ⟨hk146, h⟩ := chk_some h;refine zV R3 (Val.add rfl rfl hk146) ?_;obtain ⟨c147, hc147⟩ := zY (¬ y21_12 = (((y21_5 + (((GSo y21_7 encI y21_6).l).length : Int)) + (((GSo y21_9 encI y21_8).l).length : Int)) + (((GSo y21_11 encI y21_10).l).length : Int)));refine zV R3 (Val.neq hc147 rfl rfl) (zP R6 (zN ?_));subst hc147;cases h;exact ⟨rfl, (), (sb .refl)⟩
        refine zO R3 (zO R3 (zO R3 (zO R3 (zO R3 (zO R3 (zO R3 (zO R3 (zO R3 (zO R3 (zO R3 (zO R3 (zO R3 (zO R3 (zO R3 (zO R3 (zO R3 (zP R6 (zN ?_))))))))))))))))));cases h;exact ⟨rfl, (), (sb .refl)⟩
       refine zO R3 (zO R3 (zO R3 (zO R3 (zO R3 (zO R3 (zP R6 (zM R4 (zO R3 (zO R3 (zO R3 (zO R3 (zO R3 (zO R3 (zO R3 (zO R3 (zO R3 (zO R3 (zO R3 (zO R3 (zO R3 (zO R3 (zO R3 (zO R3 (zO R3 (zP R6 (zN ?_))))))))))))))))))))))))));cases h;exact ⟨rfl, (), (sb .refl)⟩
      refine zO R3 (zO R3 (zO R3 (zO R3 (zO R3 (zP R6 (zM R4 (zO R3 (zO R3 (zO R3 (zO R3 (zO R3 (zO R3 (zP R6 (zM R4 (zO R3 (zO R3 (zO R3 (zO R3 (zO R3 (zO R3 (zP R6 (zM R4 (zO R3 (zO R3 (zO R3 (zO R3 (zO R3 (zO R3 (zO R3 (zO R3 (zO R3 (zO R3 (zO R3 (zO R3 (zO R3 (zO R3 (zO R3 (zO R3 (zO R3 ?_)))))))))))))))))))))))))))))))))))))));refine zP R6 (zN ?_);cases h;exact ⟨rfl, (), (sb .refl)⟩
     ·rintro x148 _ h;obtain ⟨rfl, h⟩ | ⟨rfl, h⟩ := zZ h
      ·refine zC rfl (zU rfl (zA R4 (zN (zR ?_))));cases h;exact ⟨ret_ne, ⟨rfl, _, rfl, ⟨(), rfl, (pk [98,98,98,98,98,98,98,98] rfl)⟩⟩⟩
      refine zD rfl (zK ?_);cases h;exact ⟨rfl, (), (sb .refl)⟩
    ·rintro _ _ h;refine zU rfl (zF 0 R6 (zV R3 (vW 7 [_,_] R5 R4) (zF 0 R6 (zL 6 R3 R6 ?_))));obtain ⟨y153, hr153, h⟩ := andx_some h;refine TO.callT (first := []) (cap := []) (vs := [.agg [iv (c_Book_Signed), v_c_Book_Gatherings], (GSo y21_2 encI y21).v]) rfl rfl rfl rfl rfl rfl (orcN rfl) (tf_r4_Runs aD (Rdl.mono h_c_Book_Gatherings M8) (Rdl.mono (Rdl.gs (C := C) (GSo y21_2 encI y21)) M8) hr153) ?_;rintro w153;refine zG (_::_::_::_::_::_::_::_::_::C) rfl (zA R4 (zN (zU rfl (zA R4 (zA R4 (zN ?_))))))
     show T _ _ _ _ _ _;apply T.join (r := r) (W := Unit) (fun j w => ⟨[], [(1, ivk .u16 ((n.toNat : Int))), (2, v_bits), (3, .ptr b3 0 3), (7, .ptr b7 0 7), (13, iv (j))], ownL true w153 enc_duodecimoref04_Run y153 :: .row b7 7 [(GSo y21_2 encI y21).v, (GSo y21_4 encI y21_3).v, iv (y21_5), (GSo y21_7 encI y21_6).v, (GSo y21_9 encI y21_8).v, (GSo y21_11 encI y21_10).v, iv (y21_12)] :: .row b3 3 [iv (c_Book_Signed), v_c_Book_Gatherings, v_c_Items] :: C⟩) h
     ·intro j h;refine zU rfl (zA R4 (zN (zB ?_)))
      show T _ _ _ _ _ _;apply T.iter (r := j) (W := Unit) (fun j w => ⟨[], [(1, ivk .u16 ((n.toNat : Int))), (2, v_bits), (3, .ptr b3 0 3), (7, .ptr b7 0 7), (11, w153), (12, iv (j.1)), (13, iv (j.2.1)), (14, iv (j.2.2))], ownL true w153 enc_duodecimoref04_Run y153 :: .row b7 7 [(GSo y21_2 encI y21).v, (GSo y21_4 encI y21_3).v, iv (y21_5), (GSo y21_7 encI y21_6).v, (GSo y21_9 encI y21_8).v, (GSo y21_11 encI y21_10).v, iv (y21_12)] :: .row b3 3 [iv (c_Book_Signed), v_c_Book_Gatherings, v_c_Items] :: C⟩) (w0 := ()) h
      ·exact (sb (pk [0,6,6,98,98,98,98,98,98] rfl))
      rintro ⟨last, moved, i⟩ _ a h;unfold P_law_CopyFewest_L2 at h;dsimp only at h;dsimp only;refine zS (zU rfl (zM R4 (zM R4 (zV R3 (Val.len_own (p := 0) rfl rfl rfl) ?_))));obtain ⟨c157, hc157⟩ := zY (i < (y153.length : Int));refine zV R3 (Val.lss hc157 rfl rfl) (zN ?_);obtain ⟨rfl, hc157, h⟩ | ⟨rfl, hc157, h⟩ := zI hc157 h
      ·refine zC rfl (zK ?_)
       show T _ _ _ _ _ _;apply T.join (r := a) (W := Unit) (fun j w => ⟨[], [(1, ivk .u16 ((n.toNat : Int))), (2, v_bits), (3, .ptr b3 0 3), (7, .ptr b7 0 7), (11, w153), (12, iv (j.1)), (13, iv (j.2)), (14, iv (i))], ownL true w153 enc_duodecimoref04_Run y153 :: .row b7 7 [(GSo y21_2 encI y21).v, (GSo y21_4 encI y21_3).v, iv (y21_5), (GSo y21_7 encI y21_6).v, (GSo y21_9 encI y21_8).v, (GSo y21_11 encI y21_10).v, iv (y21_12)] :: .row b3 3 [iv (c_Book_Signed), v_c_Book_Gatherings, v_c_Items] :: C⟩) h
       ·intro j h;refine zB (zS (zS (T.draw (fun v => sameC_refl v) (l1 := [0, 1, 2, 3, 4, 5, 6]) (l2 := [7]) (by kernel_rfl) (by kernel_rfl) (zF 5 R6 (zL 1 R3 R6 (zM R4 (zM R4 ?_)))))));obtain ⟨a164, hia164, ea164, h⟩ := el_some h;refine TO.fact (own_at (en := enc_duodecimoref04_Run) (p := 0) rfl hia164) (fun hp=>?_);obtain ⟨ida164, ata164⟩ := hp;refine zV R3 (Val.iaddr_at (en := enc_duodecimoref04_Run) ata164 ⟨rfl, rfl⟩ rfl rfl hia164) (zV R3 (Val.faddr_ptr_ rfl rfl) (zV R3 (Val.load_ownL (en := enc_duodecimoref04_Run) (p := 0) (j := 0) rfl ata164 ⟨_, rfl, rfl⟩ rfl ea164 rfl) ?_));obtain ⟨has167, hr167, h⟩ := andx_some h;refine TO.call rfl rfl rfl rfl rfl (orcL rfl aD) (.cons .gs (.cons .lit .nil)) (sem_of (w_r1_Has (GSo y21_11 encI y21_10) a164.item _ (by exact hr167))) (zN ?_);obtain ⟨rfl, h⟩ | ⟨rfl, h⟩ := zZ h
        ·refine zC rfl (zU rfl (zM R4 ?_));obtain ⟨hk169, h⟩ := chk_some h;refine zV R3 (Val.add rfl rfl hk169) (zA R4 (zN (zE ?_)));cases h;exact ⟨rfl, (), (sb .refl)⟩
        refine zD rfl (zK (zS (zU rfl (zM R4 (zM R4 ?_)))));obtain ⟨a172, hia172, ea172, h⟩ := el_some h;refine TO.fact (own_at (en := enc_duodecimoref04_Run) (p := 0) rfl hia172) (fun hp=>?_);obtain ⟨ida172, ata172⟩ := hp;refine zV R3 (Val.iaddr_at (en := enc_duodecimoref04_Run) ata172 ⟨rfl, rfl⟩ rfl rfl hia172) (zV R3 (Val.faddr_ptr_ rfl rfl) (zV R3 (Val.load_ownL (en := enc_duodecimoref04_Run) (p := 0) (j := 1) rfl ata172 ⟨_, rfl, rfl⟩ rfl ea172 rfl) (zM R4 ?_)));obtain ⟨c176, hc176⟩ := zY (a172.first ≤ last);refine zV R3 (Val.leq hc176 rfl rfl) (zN ?_);obtain ⟨rfl, hc176, h⟩ | ⟨rfl, hc176, h⟩ := zI hc176 h
        ·refine zC rfl (zU rfl (zA R4 (zN (zR ?_))));cases h;exact ⟨ret_ne, ⟨ret_ne, ⟨ret_ne, ⟨rfl, _, rfl, ⟨(), rfl, (pk [98,98,98] rfl)⟩⟩⟩⟩⟩
        refine zD rfl (zK (zT rfl (zM R4 (zM R4 ?_))));obtain ⟨a179, hia179, ea179, h⟩ := el_some h;refine TO.fact (own_at (en := enc_duodecimoref04_Run) (p := 0) rfl hia179) (fun hp=>?_);obtain ⟨ida179, ata179⟩ := hp;refine zV R3 (Val.iaddr_at (en := enc_duodecimoref04_Run) ata179 ⟨rfl, rfl⟩ rfl rfl hia179) (zV R3 (Val.faddr_ptr_ rfl rfl) (zV R3 (Val.load_ownL (en := enc_duodecimoref04_Run) (p := 0) (j := 2) rfl ata179 ⟨_, rfl, rfl⟩ rfl ea179 rfl) (zA R4 (zN ?_))));cases h;exact ⟨rfl, (), (sb .refl)⟩
       ·rintro ⟨last_2, moved_2⟩ _ h;dsimp only at h;dsimp only;refine zT rfl (zM R4 ?_);obtain ⟨hk159, h⟩ := chk_some h;refine zV R3 (Val.add rfl rfl hk159) (zA R4 (zN ?_));cases h;exact ⟨rfl, (), (sb .refl)⟩
      refine zD rfl (zE ?_);cases h;exact ⟨ex_ne, ⟨rfl, (), (sb .refl)⟩⟩
     ·rintro moved _ h;refine zU rfl (zV R3 (vW 2 [_,_,_] R5 R4) (zM R4 ?_));obtain ⟨hk184, h⟩ := chk_some h;refine zV R3 (Val.conv (cv_ty37_3 hk184) rfl) (TO.callIn rfl rfl rfl rfl rfl rfl (orcN rfl) (TF.enter (fn := Go.Proofs.Tryz.f17) rfl rfl rfl rfl rfl (zU rfl (zQ 3 [_,_,_] R7 (fun b2=>zA R4 (zN (zU rfl (zV R3 (vW 0 [_,_,_] R5 R4) ?_))))))));obtain ⟨⟨y7, y7_2⟩, hr7, h⟩ := andx_some h;dsimp only at h;obtain ⟨g_5, hgg_5, hrg_5⟩ := Rdl.reif (hs := .row b2 3 [iv (c_Book_Signed), v_c_Book_Gatherings, v_c_Items] :: ownL true w153 enc_duodecimoref04_Run y153 :: .row b7 7 [(GSo y21_2 encI y21).v, (GSo y21_4 encI y21_3).v, iv (y21_5), (GSo y21_7 encI y21_6).v, (GSo y21_9 encI y21_8).v, (GSo y21_11 encI y21_10).v, iv (y21_12)] :: .row b3 3 [iv (c_Book_Signed), v_c_Book_Gatherings, v_c_Items] :: C) h_c_Book_Gatherings M4 (ReifL.flat encG_tr);obtain ⟨g_6, hgg_6, hrg_6⟩ := Rdl.reif (hs := .row b2 3 [iv (c_Book_Signed), v_c_Book_Gatherings, v_c_Items] :: ownL true w153 enc_duodecimoref04_Run y153 :: .row b7 7 [(GSo y21_2 encI y21).v, (GSo y21_4 encI y21_3).v, iv (y21_5), (GSo y21_7 encI y21_6).v, (GSo y21_9 encI y21_8).v, (GSo y21_11 encI y21_10).v, iv (y21_12)] :: .row b3 3 [iv (c_Book_Signed), v_c_Book_Gatherings, v_c_Items] :: C) h_c_Items M4 (ReifL.flat encIt_tr);refine TO.call rfl rfl rfl rfl rfl (orcL rfl aD) (.cons (.agg (.cons .lit (.cons (hrg_5 _) (.cons (hrg_6 _) .nil)))) .nil) (sem_of (w_r4_All c_Book_Signed g_5 g_6 _ (by try rw [hgg_5]; try rw [hgg_6]; exact hr7))) (zA R4 (zN (zU rfl (zM R4 (zM R4 (zM R4 (zV R3 (Val.len_gs rfl rfl) ?_)))))));obtain ⟨hk12, h⟩ := chk_some h;refine zV R3 (Val.rem rfl rfl hk12) ?_;obtain ⟨a13, hia13, ea13, h⟩ := el_some h;refine TO.fact (rdl_at (Rdl.gs (C := C) (GSo y7_2 (encSl encI) (List.map (GSo true encI) y7))) M4 hia13 ea13) (fun hp=>?_);obtain ⟨pa13, hpa13, hva13⟩ := hp;refine zV R3 (hva13 ⟨rfl, rfl⟩ rfl rfl) (zV R3 (Val.load_e hpa13 M4 ⟨_, rfl, rfl⟩ rfl rfl) (zA R4 (zN (zR ?_))));refine ⟨rfl, _, rfl, ?_⟩;refine zA R4 (zN (zU rfl (zF 0 R6 (zV R3 (vW 3 [_,_] R5 R4) (zM R4 ?_)))));obtain ⟨⟨y189, y189_2, y189_3, y189_4, y189_5, y189_6, y189_7⟩, hr189, h⟩ := andx_some h;dsimp only at h;refine TO.callT (first := []) (cap := []) (vs := [.agg [iv (c_Book_Signed), v_c_Book_Gatherings], a13.v]) rfl rfl rfl rfl rfl rfl (orcN rfl) (tf_r4_Of aD (Rdl.mono h_c_Book_Gatherings M4) (Rdl.mono (Rdl.gs (C := C) a13) M4) hr189) ?_;rintro ⟨w189, w189_2, w189_3, w189_4, w189_5⟩;refine zG (_::_::_::_::_::_::_::_::_::C) rfl (zJ 7 [_,_,_,_,_,_,_] R7 (fun b16=>TO.fact (own_cellS (p := 1) rfl) (fun hot11=>TO.fact (own_cellS (p := 2) rfl) (fun hot12=>TO.fact (own_cellS (p := 3) rfl) (fun hot13=>TO.fact (own_cellS (p := 4) rfl) (fun hot14=>TO.fact (own_cellS (p := 5) rfl) (fun hot15=>TO.eff0 rfl rfl (Eff.store_row (p := 0) (cv := [_, _, _, _, _, _, _]) (cells' := [_, _, _, _, _, _, _]) rfl rfl rfl rfl rfl rfl rfl rfl (by first | rfl | (simp [GS.one, hot11.2, hot12.2, hot13.2, hot14.2, hot15.2]; done) | (simp [GS.one, hot11.2, hot12.2, hot13.2, hot14.2, hot15.2]; (repeat' apply And.intro) <;> rfl)) (by decide) rfl) ?_)))))))
      rintro _ rfl;refine zG (_::_::_::_::_::_::_::_::_::_::C) rfl (zN (zU rfl (zF 0 R6 (zV R3 (vW 9 [_,_] R5 R4) (zM R4 ?_)))));obtain ⟨y193, hr193, h⟩ := andx_some h;refine TO.callT (first := []) (cap := []) (vs := [.agg [iv (c_Book_Signed), v_c_Book_Gatherings], a13.v]) rfl rfl rfl rfl rfl rfl (orcN rfl) (tf_r4_Runs aD (Rdl.mono h_c_Book_Gatherings (memS (memS M8))) (Rdl.mono (Rdl.gs (C := C) a13) (memS (memS M8))) hr193) ?_;rintro w193;refine zG (_::_::_::_::_::_::_::_::_::_::_::C) rfl (zA R4 (zN (zS (T.draw (fun v => sameC_refl v) (l1 := [0, 1, 2, 3, 4, 5, 6, 7, 8, 9, 10, 11, 12, 13, 14]) (l2 := [15, 16, 17, 18]) (by kernel_rfl) (by kernel_rfl) (zF 2 R6 (zL 1 R3 R6 (zF 3 R6 (zL 1 R3 R6 (zV R3 (Val.len_own (p := 4) rfl rfl rfl) ?_)))))))));obtain ⟨hk199, h⟩ := chk_some h;refine zV R3 (Val.add rfl rfl hk199) (zF 4 R6 (zL 1 R3 R6 (zV R3 (Val.len_own (p := 5) rfl rfl rfl) ?_)));obtain ⟨hk203, h⟩ := chk_some h;refine zV R3 (Val.add rfl rfl hk203) (zM R4 (zV R3 (Val.len_own (p := 0) rfl rfl rfl) ?_));obtain ⟨hk206, h⟩ := chk_some h;refine zV R3 (Val.add rfl rfl hk206) (zM R4 (zM R4 ?_));obtain ⟨y209, hr209, h⟩ := andx_some h;obtain ⟨g_7, hgg_7, hrg_7⟩ := Rdl.reif (hs := ownL true w193 enc_duodecimoref04_Run y193 :: .row b16 7 [w189, w189_2, iv (y189_3), w189_3, w189_4, w189_5, iv (y189_7)] :: ownL false w189 encI y189 :: ownL true w189_2 encI y189_2 :: ownL true w189_3 encI y189_4 :: ownL true w189_4 encI y189_5 :: ownL true w189_5 encI y189_6 :: .row b2 3 [iv (c_Book_Signed), v_c_Book_Gatherings, v_c_Items] :: ownL true w153 enc_duodecimoref04_Run y153 :: .row b7 7 [(GSo y21_2 encI y21).v, (GSo y21_4 encI y21_3).v, iv (y21_5), (GSo y21_7 encI y21_6).v, (GSo y21_9 encI y21_8).v, (GSo y21_11 encI y21_10).v, iv (y21_12)] :: .row b3 3 [iv (c_Book_Signed), v_c_Book_Gatherings, v_c_Items] :: C) h_bits (memS (memS (memS M8))) (ReifL.flat encU8_tr);refine TO.call rfl rfl rfl rfl rfl (orcL rfl aD) (.cons (.ownL (p := 0) rfl ((ReifL.flat enc_duodecimoref04_Run_tr) _ _)) (.cons (hrg_7 _) .nil)) (sem_of (w_l_kept (GSo true enc_duodecimoref04_Run y193) g_7 _ (by try rw [hgg_7]; exact hr209))) (zV R3 (Val.len_gs rfl rfl) ?_);obtain ⟨hk211, h⟩ := chk_some h;refine zV R3 (Val.sub rfl rfl hk211) (zA R4 (zN ?_))
      show T _ _ _ _ _ _;apply T.joinA (r := r) (W := Unit) (fun j w => ⟨[], [(6, bv j)], ownL true w193 enc_duodecimoref04_Run y193 :: .row b16 7 [w189, w189_2, iv (y189_3), w189_3, w189_4, w189_5, iv (y189_7)] :: ownL false w189 encI y189 :: ownL true w189_2 encI y189_2 :: ownL true w189_3 encI y189_4 :: ownL true w189_4 encI y189_5 :: ownL true w189_5 encI y189_6 :: .row b2 3 [iv (c_Book_Signed), v_c_Book_Gatherings, v_c_Items] :: ownL true w153 enc_duodecimoref04_Run y153 :: .row b7 7 [(GSo y21_2 encI y21).v, (GSo y21_4 encI y21_3).v, iv (y21_5), (GSo y21_7 encI y21_6).v, (GSo y21_9 encI y21_8).v, (GSo y21_11 encI y21_10).v, iv (y21_12)] :: .row b3 3 [iv (c_Book_Signed), v_c_Book_Gatherings, v_c_Items] :: C⟩) h
      ·intro j h;refine zT rfl (zM R4 (zF 5 R6 (zL 9 R3 R6 (zV R3 (Val.len_gs rfl rfl) ?_))));obtain ⟨c216, hc216⟩ := zY (moved = (((GSo y21_11 encI y21_10).l).length : Int));refine zV R3 (Val.eql hc216 rfl rfl) (zM R4 ?_);obtain ⟨rfl, hc216, h⟩ | ⟨rfl, hc216, h⟩ := zI hc216 h
       ·refine zF 6 R6 (zL 9 R3 R6 (zM R4 ?_));obtain ⟨c221, hc221⟩ := zY (y21_12 ≤ ((((y189_3 + (y189_4.length : Int)) + (y189_5.length : Int)) + (y193.length : Int)) - (y209.length : Int)));refine zV R3 (Val.leq hc221 rfl rfl) (zP R6 (zM R4 ?_));obtain ⟨rfl, hc221, h⟩ | ⟨rfl, hc221, h⟩ := zI hc221 h
        ·refine TO.call rfl rfl rfl rfl rfl orcA .nil rfl (zP R6 (zA R4 (zN ?_)));cases h;exact ⟨rfl, (), (sb .refl)⟩
        refine zO R3 (zP R6 (zA R4 (zN ?_)));cases h;exact ⟨rfl, (), (sb .refl)⟩
       refine zO R3 (zO R3 (zO R3 (zO R3 (zP R6 (zM R4 (zO R3 (zP R6 (zA R4 (zN ?_)))))))));cases h;exact ⟨rfl, (), (sb .refl)⟩
      ·rintro x6 _ h;refine zR ?_;cases h;exact ⟨rfl, _, rfl, ⟨(), rfl, (pk [98,98,98,98,98,98,98,98,98,98,98] rfl)⟩⟩
 refine zC rfl ?_
 show T _ _ _ _ _ _;apply T.joinA (r := r) (W := Unit) (fun j w => ⟨[], [(6, bv j)], .row b7 7 [(GSo y21_2 encI y21).v, (GSo y21_4 encI y21_3).v, iv (y21_5), (GSo y21_7 encI y21_6).v, (GSo y21_9 encI y21_8).v, (GSo y21_11 encI y21_10).v, iv (y21_12)] :: .row b3 3 [iv (c_Book_Signed), v_c_Book_Gatherings, v_c_Items] :: C⟩) h
 ·intro j h;refine zT rfl (zM R4 ?_);obtain ⟨c28, hc28⟩ := zY (¬ y21_13 = 0);refine zV R3 (Val.neq hc28 rfl rfl) (zM R4 ?_);obtain ⟨rfl, hc28, h⟩ | ⟨rfl, hc28, h⟩ := zI hc28 h
  ·refine zV R3 (vW 0 [_,_,_,_,_,_,_] R5 R4) (zV R3 (Val.buildC (cs := [_, _, _, _, _, _, _]) (vs := []) (ws := []) rfl rfl CellsL.nil rfl) ?_);obtain ⟨y32, hr32, h⟩ := andx_some h;refine TO.callT (first := []) (cap := []) (vs := [.agg [(GSo y21_2 encI y21).v, (GSo y21_4 encI y21_3).v, iv (y21_5), (GSo y21_7 encI y21_6).v, (GSo y21_9 encI y21_8).v, (GSo y21_11 encI y21_10).v, iv (y21_12)], .agg [nilS, nilS, iv (0), nilS, nilS, nilS, iv (0)]]) rfl rfl rfl rfl rfl rfl (orcN rfl) (tf_r4_Same aD (Rdl.mono (Rdl.gs (C := C) (GSo y21_2 encI y21)) M2) (Rdl.mono (Rdl.gs (C := C) (GSo y21_4 encI y21_3)) M2) (Rdl.mono (Rdl.gs (C := C) (GSo y21_7 encI y21_6)) M2) (Rdl.mono (Rdl.gs (C := C) (GSo y21_9 encI y21_8)) M2) (Rdl.mono (Rdl.gs (C := C) (GSo y21_11 encI y21_10)) M2) (Rdl.mono (Rdl.nil (C := C)) M2) (Rdl.mono (Rdl.nil (C := C)) M2) (Rdl.mono (Rdl.nil (C := C)) M2) (Rdl.mono (Rdl.nil (C := C)) M2) (Rdl.mono (Rdl.nil (C := C)) M2) hr32) ?_;rintro _;refine zG (_::_::C) rfl (zP R6 (zM R4 ?_));obtain ⟨rfl, h⟩ | ⟨rfl, h⟩ := zZ h
   ·refine TO.call rfl rfl rfl rfl rfl orcA .nil rfl (zP R6 (zA R4 (zN ?_)));cases h;exact ⟨rfl, (), (sb .refl)⟩
   refine zO R3 (zP R6 (zA R4 (zN ?_)));cases h;exact ⟨rfl, (), (sb .refl)⟩
  refine zO R3 (zO R3 (zO R3 (zP R6 (zM R4 (zO R3 (zP R6 (zA R4 (zN ?_))))))));cases h;exact ⟨rfl, (), (sb .refl)⟩
 ·rintro x6 _ h;refine zR ?_;cases h;exact ⟨rfl, _, rfl, ⟨(), rfl, (pk [98,98] rfl)⟩⟩
theorem w_law_CopyFewest (c_Book_Signed : Int) (c_Book_Gatherings : GS encG) (c_Items : GS encIt) (n : UInt16) (bits : GS encU8) (r : Bool) (h : P_law_CopyFewest c_Book_Signed c_Book_Gatherings.l c_Items.l n bits.l = some r) : Comes (EL 6) 5 [.agg [iv (c_Book_Signed), c_Book_Gatherings.v, c_Items.v], ivk .u16 ((n.toNat : Int)), bits.v] (bv r) :=
 TF.run (tf_law_CopyFewest (Nat.le_refl _) (RdT.gs c_Book_Gatherings) (RdT.gs c_Items) (RdT.gs bits) h) fun w => .lit
end Go.Am.YthckcbfijdambaaGreat
end
section
namespace Go.Am
open Go.RowKit
def Lifts (P : Program) (t : TypeId) {α : Type} (e : En α) : Prop :=
 ∀ (H : Type) (enc : TypeId × Value → H) (W : World) (base : Nat) (held : Bool) (fuel : Nat) (cs : List Value) (x : DataW H × List MemPlace),
  DataW.trod enc P W base (fun _ => true) held fuel t cs = some x → ∃ a : α, RelL (snapR W 0) (e.f a) cs
theorem Lifts.int {P : Program} {t : TypeId} (ht : P.underlying t = some (.int .i64)) : Lifts P t encI := by
 intro H enc W base held fuel cs x hx;obtain ⟨n, rfl, _, _⟩ := DataW.trod_int ht hx;exact ⟨n, .cons (.lit _) (.nil _)⟩
theorem snap_cell {W : World} {b off : Nat} {v : Value} (h : W.cell? ⟨b, off, none⟩ = some v) : ∃ c, (snapR W 0).imm b = some c ∧ c[off]? = some v := by
 unfold World.cell? at h;split at h
 ·rename_i c _ _ hb
  simp at h;exact ⟨c, by simp only [snapR, snap, Nat.zero_le, if_true]; simp only [] at hb; rw [hb], h⟩
 ·cases h
theorem list_of {α : Type} {p : Nat → α → Prop} : ∀ n : Nat, (∀ i, i < n → ∃ a, p i a) → ∃ l : List α, l.length = n ∧ ∀ i a, l[i]? = some a → p i a := by
 intro n
 induction n with
 | zero => intro _; exact ⟨[], rfl, fun i a h => by simp at h⟩
 | succ n ih =>
  intro h;obtain ⟨l, h1, h2⟩ := ih fun i hi => h i (by omega)
  obtain ⟨a, ha⟩ := h n (by omega);refine ⟨l ++ [a], by simp [h1], fun i b hb => ?_⟩
  by_cases hi : i < l.length
  ·rw [List.getElem?_append_left hi] at hb; exact h2 i b hb
  ·rw [List.getElem?_append_right (by omega)] at hb
   have : i - l.length = 0 := by
    have := (List.getElem?_eq_some_iff.1 hb).1;simp at this; omega
   rw [this] at hb;simp at hb;subst hb
   have : i = n := by omega
   rw [this]; exact ha
theorem Lifts.slice {P : Program} {t e : TypeId} {α : Type} {en : En α} (ht : P.underlying t = some (.slice e)) (hu : P.cellsOf e = en.u) (h0 : 0 < en.u) (h : Lifts P e en) : Lifts P t (encSl en) := by
 intro H enc W base held fuel cs x hx
 rcases DataW.trod_slice ht hx with ⟨rfl, _⟩ | ⟨a, len, cap, elems, rest, n, _, rfl, _, hb, hl, _, hlen, hel, hsp, _⟩
 ·exact ⟨⟨nilS, [], .inl ⟨rfl, rfl, rfl⟩⟩, .cons (.lit _) (.nil _)⟩
 ·rw [hu] at hel hsp;obtain ⟨hrl, hr⟩ := hsp rfl
  by_cases hc : cap = 0
  ·subst hc
   have : len = 0 := by omega
   subst this;exact ⟨⟨.tree en.u 0 [], [], .inr ⟨rfl, by simp⟩⟩, .cons .tree0 (.nil _)⟩
  ·have hcell : ∀ i, i < len → ∃ (a' : α) (ci : List Value), W.cells? base (a.add (i * en.u)) en.u = some ci ∧ RelL (snapR W 0) (en.f a') ci := by
    intro i hi
    have he := hel i hi;rw [List.getElem?_eq_getElem (by omega)] at he;obtain ⟨ci, h1, h2⟩ := Option.bind_eq_some_iff.1 he;obtain ⟨a', h3⟩ := h _ _ _ _ _ _ _ _ h2;exact ⟨a', ci, h1, h3⟩
   have hspot : a.spot = none := by
    have : ∃ ci, W.cells? base (a.add (0 * en.u)) en.u = some ci := by
     by_cases hl0 : 0 < len
     ·obtain ⟨_, ci, h1, _⟩ := hcell 0 hl0;exact ⟨ci, h1⟩
     ·have hz : len = 0 := by omega
      have he := hr 0 (by omega);rw [List.getElem?_eq_getElem (by omega)] at he;obtain ⟨ci, h1, _⟩ := Option.bind_eq_some_iff.1 he;exact ⟨ci, by simpa [hz] using h1⟩
    obtain ⟨ci, h1⟩ := this;obtain ⟨_, h2, h3⟩ := World.cells?_some h1
    have h4 := h3 0 h0;rw [List.getElem?_eq_getElem (by omega)] at h4
    have := World.cell?_spot h4
    simpa [Addr.add] using this
   obtain ⟨b, off, sp⟩ := a;simp only at hspot;subst hspot;obtain ⟨l, hl1, hl2⟩ := list_of (p := fun i a' => ∃ ci : List Value, W.cells? base ((⟨b, off, none⟩ : Addr).add (i * en.u)) en.u = some ci ∧ RelL (snapR W 0) (en.f a') ci) len hcell
   have hfl : (l.flatMap en.f).length = len * en.u := by rw [flat_len, hl1]
   have each : ∀ j, j < len * en.u → ∃ v y c, (l.flatMap en.f)[j]? = some v ∧ (snapR W 0).imm b = some c ∧ c[off + j]? = some y ∧ RelV (snapR W 0) v y := by
    intro j hj
    have hi : j / en.u < l.length := by rw [hl1]; exact Nat.div_lt_of_lt_mul (by rw [Nat.mul_comm]; exact hj)
    have hk : j % en.u < en.u := Nat.mod_lt _ h0
    have hd : j / en.u * en.u + j % en.u = j := by rw [Nat.mul_comm]; exact Nat.div_add_mod j en.u
    obtain ⟨ci, h1, h2⟩ := hl2 _ _ (List.getElem?_eq_getElem hi);obtain ⟨_, h3, h4⟩ := World.cells?_some h1
    have h5 := h4 _ hk;rw [List.getElem?_eq_getElem (by omega)] at h5
    have h6 : ((⟨b, off, none⟩ : Addr).add (j / en.u * en.u)).add (j % en.u) = ⟨b, off + j, none⟩ := by
     simp only [addr_add]
     congr 1
     omega
    rw [h6] at h5;obtain ⟨c, h7, h8⟩ := snap_cell h5
    have hlen' := en.len l[j / en.u]
    have hv := List.getElem?_eq_getElem (l := en.f l[j / en.u]) (i := j % en.u) (by omega);refine ⟨_, _, c, ?_, h7, h8, h2.2 _ _ _ hv (List.getElem?_eq_getElem _)⟩
    have := flat_get (en := en) (List.getElem?_eq_getElem hi) hk;rw [hd] at this;rw [this, hv]
   refine ⟨⟨.tree en.u l.length (l.flatMap en.f), l, .inr ⟨rfl, by rw [hfl, hl1]⟩⟩, .cons ?_ (.nil _)⟩
   show RelV _ (.tree en.u l.length (l.flatMap en.f)) _;rw [hl1]
   by_cases hz : len * en.u = 0
   ·refine .tree (c := #[]) hfl hl (.inl (List.eq_nil_of_length_eq_zero (by omega))) fun i v x hv hx => by simp at hx
   ·obtain ⟨_, _, c, _, hc1, _, _⟩ := each (len * en.u - 1) (by omega);refine .tree (c := c) hfl hl (.inr ⟨hc1, ?_⟩) fun j v y hv hy => ?_
    ·obtain ⟨_, _, c', _, hc2, hc3, _⟩ := each (len * en.u - 1) (by omega);rw [hc1] at hc2;cases hc2
     have := (Array.getElem?_eq_some_iff.1 hc3).1;omega
    ·have hj := (List.getElem?_eq_some_iff.1 hv).1;obtain ⟨v', y', c', e1, e2, e3, e4⟩ := each j (by omega);rw [hc1] at e2;cases e2;rw [hv] at e1;rw [hy] at e3;cases e1;cases e3;exact e4
theorem RelL.glue {r : Ren} {a b : List AV} {cs : List Value} {n : Nat} (h1 : RelL r a (cs.take n)) (h2 : RelL r b (cs.drop n)) : RelL r (a ++ b) cs := by
 have := h1.append h2
 rwa [List.take_append_drop] at this
end Go.Am
end
section
namespace Go.Am
open Go.RowKit
def enPair {α β : Type} (a : En α) (b : En β) : En (α × β) := ⟨a.u + b.u, fun p => a.f p.1 ++ b.f p.2, fun p => by simp [a.len, b.len]⟩
theorem Lifts.map {P : Program} {t : TypeId} {α β : Type} {a : En α} {b : En β} (h : Lifts P t a) (hf : ∀ x, ∃ y, b.f y = a.f x) : Lifts P t b := by
 intro H enc W base held fuel cs x hx;obtain ⟨v, hv⟩ := h _ _ _ _ _ _ _ _ hx;obtain ⟨y, hy⟩ := hf v;exact ⟨y, by rw [hy]; exact hv⟩
theorem Lifts.struct1 {P : Program} {t : TypeId} {f0 : Field} {α : Type} {a : En α} (ht : P.underlying t = some (.struct #[f0])) (o0 : f0.offset = 0) (c0 : P.cellsOf f0.type = a.u) (ct : P.cellsOf t = a.u)
  (l0 : Lifts P f0.type a) : Lifts P t a := by
 intro H enc W base held fuel cs x hx;obtain ⟨xs, n, _, _, hl, hn, h⟩ := DataW.trod_struct ht hx
 have hn1 : xs.length = 1 := hn
 have h0 := h 0 f0 rfl;rw [List.getElem?_eq_getElem (by omega), o0, c0, List.drop_zero, List.take_of_length_le (by omega)] at h0;exact l0 _ _ _ _ _ _ _ _ h0
theorem Lifts.struct2 {P : Program} {t : TypeId} {f0 f1 : Field} {α β : Type} {a : En α} {b : En β} (ht : P.underlying t = some (.struct #[f0, f1])) (o0 : f0.offset = 0) (o1 : f1.offset = a.u)
  (c0 : P.cellsOf f0.type = a.u) (c1 : P.cellsOf f1.type = b.u) (ct : P.cellsOf t = a.u + b.u) (l0 : Lifts P f0.type a) (l1 : Lifts P f1.type b) : Lifts P t (enPair a b) := by
 intro H enc W base held fuel cs x hx;obtain ⟨xs, n, _, _, hl, hn, h⟩ := DataW.trod_struct ht hx
 have hn1 : xs.length = 2 := hn
 have h0 := h 0 f0 rfl
 have h1 := h 1 f1 rfl;rw [List.getElem?_eq_getElem (by omega), o0, c0, List.drop_zero] at h0;rw [List.getElem?_eq_getElem (by omega), o1, c1, List.take_of_length_le (by simp; omega)] at h1;obtain ⟨x0, r0⟩ := l0 _ _ _ _ _ _ _ _ h0;obtain ⟨x1, r1⟩ := l1 _ _ _ _ _ _ _ _ h1;exact ⟨(x0, x1), .glue r0 r1⟩
theorem Lifts.struct3 {P : Program} {t : TypeId} {f0 f1 f2 : Field} {α β γ : Type} {a : En α} {b : En β} {c : En γ} (ht : P.underlying t = some (.struct #[f0, f1, f2])) (o0 : f0.offset = 0) (o1 : f1.offset = a.u) (o2 : f2.offset = a.u + b.u)
  (c0 : P.cellsOf f0.type = a.u) (c1 : P.cellsOf f1.type = b.u) (c2 : P.cellsOf f2.type = c.u) (ct : P.cellsOf t = a.u + (b.u + c.u)) (l0 : Lifts P f0.type a) (l1 : Lifts P f1.type b) (l2 : Lifts P f2.type c) :
  Lifts P t (enPair a (enPair b c)) := by
 intro H enc W base held fuel cs x hx;obtain ⟨xs, n, _, _, hl, hn, h⟩ := DataW.trod_struct ht hx
 have hn1 : xs.length = 3 := hn
 have h0 := h 0 f0 rfl
 have h1 := h 1 f1 rfl
 have h2 := h 2 f2 rfl;rw [List.getElem?_eq_getElem (by omega), o0, c0, List.drop_zero] at h0;rw [List.getElem?_eq_getElem (by omega), o1, c1] at h1;rw [List.getElem?_eq_getElem (by omega), o2, c2, ← List.drop_drop, List.take_of_length_le (by simp; omega)] at h2;obtain ⟨x0, r0⟩ := l0 _ _ _ _ _ _ _ _ h0;obtain ⟨x1, r1⟩ := l1 _ _ _ _ _ _ _ _ h1;obtain ⟨x2, r2⟩ := l2 _ _ _ _ _ _ _ _ h2;exact ⟨(x0, x1, x2), .glue r0 (.glue r1 r2)⟩
theorem Lifts.arg {P : Program} {t : TypeId} {fs : Array Field} {α : Type} {en : En α} (hl : Lifts P t en) (ht : P.underlying t = some (.struct fs)) {W : World} {r : Reach} {b0 : Nat} {v : Value} (hval : Value.okWide P W r b0 t v)
  {H : Type} {enc : TypeId × Value → H} {base : Nat} {held : Bool} {d : DataW H} {ps : List MemPlace} (h : DataW.Trod enc P W base (fun _ => true) held t v d ps) : ∃ a, RelV (snapR W 0) (.agg (en.f a)) v := by
 simp only [Value.okWide, ht] at hval;obtain ⟨cs, rfl, _, _⟩ := hval;obtain ⟨fuel, hf⟩ := h;obtain ⟨a, ha⟩ := hl _ _ _ _ _ _ _ _ hf;exact ⟨a, by simpa [Value.cells] using RelV.agg ha.1 ha.2⟩
theorem Lifts.argS {P : Program} {t e : TypeId} {α : Type} {en : En α} (hl : Lifts P t (encSl en)) (ht : P.underlying t = some (.slice e)) {W : World} {r : Reach} {b0 : Nat} {v : Value} (hval : Value.okWide P W r b0 t v)
  {H : Type} {enc : TypeId × Value → H} {base : Nat} {held : Bool} {d : DataW H} {ps : List MemPlace} (h : DataW.Trod enc P W base (fun _ => true) held t v d ps) : ∃ g : GS en, RelV (snapR W 0) g.v v := by
 obtain ⟨fuel, hf⟩ := h;obtain ⟨a, ha⟩ := hl _ _ _ _ _ _ _ _ hf;refine ⟨a, ?_⟩;cases v with
 | agg cs => simp [Value.okWide, ht, Cell.okWide, Cell.ok] at hval
 | slice x y z => exact ha.2 0 _ _ rfl rfl
 | _ => simp [Value.okWide, ht, Cell.okWide, Cell.ok] at hval
end Go.Am
end
section
namespace Go.Am
open Go.RowKit
set_option linter.unusedVariables false
def encU16 : En UInt16 := ⟨1, fun b => [ivk .u16 (b.toNat : Int)], fun _ => rfl⟩
theorem Lifts.u8 {P : Program} {t : TypeId} (ht : P.underlying t = some (.int .u8)) : Lifts P t encU8 := by
 intro H enc W base held fuel cs x hx;obtain ⟨n, rfl, _, hw⟩ := DataW.trod_int ht hx
 have hw : 0 ≤ n ∧ n ≤ 255 := by
  have := Bool.and_eq_true_iff.1 hw;exact ⟨of_decide_eq_true this.1, of_decide_eq_true this.2⟩
 have e : ((UInt8.ofNat n.toNat).toNat : Int) = n := by rw [UInt8.toNat_ofNat']; omega
 refine ⟨UInt8.ofNat n.toNat, .cons ?_ (.nil _)⟩;rw [e];exact .lit _
theorem Lifts.u16 {P : Program} {t : TypeId} (ht : P.underlying t = some (.int .u16)) : Lifts P t encU16 := by
 intro H enc W base held fuel cs x hx;obtain ⟨n, rfl, _, hw⟩ := DataW.trod_int ht hx
 have hw : 0 ≤ n ∧ n ≤ 65535 := by
  have := Bool.and_eq_true_iff.1 hw;exact ⟨of_decide_eq_true this.1, of_decide_eq_true this.2⟩
 have e : ((UInt16.ofNat n.toNat).toNat : Int) = n := by rw [UInt16.toNat_ofNat']; omega
 refine ⟨UInt16.ofNat n.toNat, .cons ?_ (.nil _)⟩;rw [e];exact .lit _
theorem Lifts.argI {P : Program} {t : TypeId} {k : IntKind} {α : Type} {en : En α} (hl : Lifts P t en) (ht : P.underlying t = some (.int k)) {W : World} {r : Reach} {b0 : Nat} {v : Value} (hval : Value.okWide P W r b0 t v)
  {H : Type} {enc : TypeId × Value → H} {base : Nat} {held : Bool} {d : DataW H} {ps : List MemPlace} (h : DataW.Trod enc P W base (fun _ => true) held t v d ps) : ∃ a, ∀ w, (en.f a)[0]? = some w → RelV (snapR W 0) w v := by
 obtain ⟨fuel, hf⟩ := h;obtain ⟨a, ha⟩ := hl _ _ _ _ _ _ _ _ hf;refine ⟨a, fun w hw => ?_⟩;cases v with
 | agg cs => simp [Value.okWide, ht, Cell.okWide, Cell.ok] at hval
 | _ => exact ha.2 0 _ _ hw rfl
end Go.Am
end
section
namespace Go.Am.YthckcbfijdambaaGreat
open Go.Am Go.RowKit Go.Proofs
theorem li_3 : Lifts Tryz.prog 3 encI := .int Tryz.underlying3
theorem li_107 : Lifts Tryz.prog 107 (enPair encI encI) := Lifts.struct2 Tryz.underlying107 rfl rfl (by kernel_rfl) (by kernel_rfl) (by kernel_rfl) li_3 li_3
theorem li_133 : Lifts Tryz.prog 133 encC := (Lifts.struct3 Tryz.underlying133 rfl rfl rfl (by kernel_rfl) (by kernel_rfl) (by kernel_rfl) (by kernel_rfl) li_3 li_3 li_3).map fun x => ⟨⟨x.1, x.2.1, x.2.2⟩, rfl⟩
theorem li_108 : Lifts Tryz.prog 108 (encSl encC) := .slice Tryz.underlying108 (by kernel_rfl) (by decide) li_133
theorem li_110 : Lifts Tryz.prog 110 encG := (Lifts.struct3 Tryz.underlying110 rfl rfl rfl (by kernel_rfl) (by kernel_rfl) (by kernel_rfl) (by kernel_rfl) li_107 li_3 li_108).map fun x => ⟨⟨x.1.1, x.1.2, x.2.1, x.2.2⟩, rfl⟩
theorem li_22 : Lifts Tryz.prog 22 (encSl encG) := .slice Tryz.underlying22 (by kernel_rfl) (by decide) li_110
theorem li_24 : Lifts Tryz.prog 24 encB := (Lifts.struct2 Tryz.underlying24 rfl rfl (by kernel_rfl) (by kernel_rfl) (by kernel_rfl) li_3 li_22).map fun x => ⟨⟨x.1, x.2⟩, rfl⟩
theorem li_28 : Lifts Tryz.prog 28 (encSl encI) := .slice Tryz.underlying28 (by kernel_rfl) (by decide) li_3
theorem li_54 : Lifts Tryz.prog 54 encIt := (Lifts.struct1 Tryz.underlying54 rfl (by kernel_rfl) (by kernel_rfl) li_28).map fun x => ⟨⟨x⟩, rfl⟩
theorem li_25 : Lifts Tryz.prog 25 (encSl encIt) := .slice Tryz.underlying25 (by kernel_rfl) (by decide) li_54
theorem li_27 : Lifts Tryz.prog 27 encCa := (Lifts.struct2 Tryz.underlying27 rfl rfl (by kernel_rfl) (by kernel_rfl) (by kernel_rfl) li_24 li_25).map fun x => ⟨⟨x.1, x.2⟩, rfl⟩
theorem li_37 : Lifts Tryz.prog 37 encU16 := .u16 Tryz.underlying37
theorem li_5 : Lifts Tryz.prog 5 encU8 := .u8 Tryz.underlying5
theorem li_49 : Lifts Tryz.prog 49 (encSl encU8) := .slice Tryz.underlying49 (by kernel_rfl) (by decide) li_5
end Go.Am.YthckcbfijdambaaGreat
end
section
namespace Go.Am
set_option linter.unusedVariables false
theorem i64_small {x : Int} (h : -4000000000000000000 ≤ x ∧ x ≤ 4000000000000000000) : I64 x := by unfold I64; omega
section
variable {σ ε J A β : Type}
theorem Ok.ifp {p : Prop} [Decidable p] {x y : Option β} {Q : β → Prop} (h : p) (hx : Ok x Q) : Ok (if p then x else y) Q := by rw [if_pos h]; exact hx
theorem Ok.ifn {p : Prop} [Decidable p] {x y : Option β} {Q : β → Prop} (h : ¬ p) (hy : Ok y Q) : Ok (if p then x else y) Q := by rw [if_neg h]; exact hy
theorem Ok.eq {x : Option β} {a : β} {Q : β → Prop} (h : x = Option.some a) (hq : Q a) : Ok x Q := ⟨a, h, hq⟩
theorem Ok.andx' {x : Option J} {k : J → Option β} {a : J} {Q : β → Prop} (h : x = Option.some a) (hk : Ok (k a) Q) : Ok (Am.andx x k) Q := by subst h; exact hk
def CountQ (idx : σ → Int) (I : Nat → σ → Prop) (k : Nat) (Q : ε → Prop) : Stp σ ε → Prop
 | .ag s => idx s = k + 1 ∧ I (k + 1) s
 | .dn e => Q e
def FinQ (Q : ε → Prop) : Stp σ ε → Prop
 | .ag _ => False
 | .dn e => Q e
theorem Ok.count (idx : σ → Int) (n : Nat) (I : Nat → σ → Prop) {body : σ → Option (Stp σ ε)} {s0 : σ} {Q : ε → Prop} (h0 : idx s0 = 0) (hI : I 0 s0)
  (step : ∀ k s, k < n → idx s = k → I k s → Ok (body s) (CountQ idx I k Q)) (fin : ∀ s, idx s = n → I n s → Ok (body s) (FinQ Q)) : Ok (Am.iter body s0) Q := by
 refine Ok.iter (fun s => ∃ k : Nat, k ≤ n ∧ idx s = k ∧ I k s) (fun s => n - (idx s).toNat) ⟨0, Nat.zero_le _, h0, hI⟩ ?_;rintro s ⟨k, hk, hx, hi⟩
 by_cases hlt : k < n
 ·refine (step k s hlt hx hi).mono fun x hq => ?_
  cases x with
  | ag s' =>
   have h1 : idx s' = k + 1 := hq.1;exact ⟨⟨k + 1, by omega, by rw [h1]; rfl, hq.2⟩, by show n - (idx s').toNat < n - (idx s).toNat; rw [h1, hx]; omega⟩
  | dn e => exact hq
 ·have : k = n := by omega
  subst this;refine (fin s hx hi).mono fun x hq => ?_
  cases x with
  | ag s' => exact hq.elim
  | dn e => exact hq
end
theorem get_of {α : Type} {l : List α} {k : Nat} {i : Int} {a : α} (h : l[i.toNat]? = some a) (hi : i = k) : l[k]? = some a := by rw [hi] at h; simpa using h
end Go.Am
end
section
namespace Go.Am
def cntOf (t : List Int) : Int → Int := fun x => ((t.countP fun y => decide (y = x) : Nat) : Int)
theorem cntOf_snoc (t : List Int) (n : Int) : cntOf (t ++ [n]) = putI (cntOf t) n (cntOf t n + 1) := by
 funext x
 unfold cntOf putI;rw [List.countP_append]
 by_cases h : x = n
 ·subst h; simp
 ·have : ¬ n = x := fun e => h e.symm
  simp [h, this]
theorem cntOf_le (t : List Int) (x : Int) : 0 ≤ cntOf t x ∧ cntOf t x ≤ t.length := by
 unfold cntOf
 have := List.countP_le_length (p := fun y => decide (y = x)) (l := t);omega
theorem cntOf_pos (t : List Int) (x : Int) : 0 < cntOf t x ↔ x ∈ t := by
 unfold cntOf;rw [show (0 < ((t.countP fun y => decide (y = x) : Nat) : Int)) ↔ 0 < t.countP fun y => decide (y = x) by omega, List.countP_pos_iff];simp
theorem cntOf_zero (t : List Int) (x : Int) : cntOf t x = 0 ↔ x ∉ t := by
 have := cntOf_pos t x
 have := (cntOf_le t x).1
 constructor
 ·intro h hx; have := (cntOf_pos t x).2 hx; omega
 ·intro h; have : ¬ 0 < cntOf t x := fun k => h ((cntOf_pos t x).1 k); omega
theorem there_ok {s : Int} {g : List Gat} {its : List Item} {lv : List Leaf} {mt t : List Int} (ht : t.length ≤ 1000000) : P_c_there s g its lv mt t = some (cntOf t) := by
 refine Ok.get ?_;unfold P_c_there;refine Ok.andx (P := fun f => f = cntOf t) (Ok.count Prod.fst t.length (fun k s => s.2 = cntOf (t.take k)) rfl rfl ?_ ?_) fun _ h => .some h
 ·rintro k ⟨x, f⟩ hk hx hf;simp only at hx hf;subst hf;unfold P_c_there_L1;refine .ifp (by omega) (.el (by omega) fun a ha => ?_)
  have ha := get_of ha hx
  have := cntOf_le (t.take k) a
  have : (t.take k).length ≤ t.length := by rw [List.length_take]; omega
  refine .chk (i64_small (by omega)) (.chk (i64_small (by omega)) (.some ⟨by simp only; omega, ?_⟩))
  show _ = cntOf (t.take (k + 1));rw [take_snoc ha, cntOf_snoc]
 ·rintro ⟨x, f⟩ hx hf;simp only at hx hf;unfold P_c_there_L1;refine .ifn (by omega) (.some ?_)
  show _ = _;rw [hf, List.take_length]
def lostOf (n : Nat) (t : List Int) : List Int := ((List.range n).map fun i : Nat => (i : Int)).filter fun x => decide (x ∉ t)
theorem lostOf_succ (n : Nat) (t : List Int) : lostOf (n + 1) t = if (n : Int) ∉ t then lostOf n t ++ [(n : Int)] else lostOf n t := by
 unfold lostOf;rw [List.range_succ, List.map_append, List.filter_append]
 by_cases h : (n : Int) ∈ t <;> simp [h]
theorem lostOf_len (n : Nat) (t : List Int) : (lostOf n t).length ≤ n := by
 unfold lostOf;exact Nat.le_trans (List.length_filter_le _ _) (by simp)
theorem lost_ok {s : Int} {g : List Gat} {its : List Item} {lv : List Leaf} {mt t : List Int} (ht : t.length ≤ 1000000) (hl : lv.length ≤ 1000000) : P_c_lost s g its lv mt t = some (lostOf lv.length t) := by
 refine Ok.get ?_;unfold P_c_lost;refine .andx' (there_ok ht) ?_;refine Ok.andx (P := fun l => l = lostOf lv.length t) (Ok.count Prod.fst lv.length (fun k s => s.2 = lostOf k t) rfl rfl ?_ ?_) fun _ h => .some h
 ·rintro k ⟨x, l⟩ hk hx hl';simp only at hx hl';subst hl'
  have hlen := lostOf_len k t;unfold P_c_lost_L1;refine .ifp (by omega) (Ok.andx (P := fun l => l = lostOf (k + 1) t) ?_ ?_)
  ·refine .ite (fun hc => ?_) (fun hc => ?_)
   ·refine .chk (by simp; omega) (.some ?_)
    show _ = _;rw [lostOf_succ, if_pos (by rw [← hx]; exact (cntOf_zero t x).1 hc), hx]
   ·refine .some ?_
    show _ = _;rw [lostOf_succ, if_neg (by rw [← hx]; exact fun h => hc ((cntOf_zero t x).2 h))]
  ·rintro l' rfl;exact .chk (i64_small (by omega)) (.some ⟨by simp only; omega, rfl⟩)
 ·rintro ⟨x, l⟩ hx hl';simp only at hx hl';unfold P_c_lost_L1;exact .ifn (by omega) (.some hl')
end Go.Am
end
section
namespace Go.Am
set_option linter.unusedVariables false
def idxTo (p : Nat → Int → Bool) (t : List Int) : Nat → List Int
 | 0 => []
 | k + 1 => idxTo p t k ++ (match t[k]? with | some n => if p k n = true then [(k : Int)] else [] | none => [])
theorem idxTo_succ {p : Nat → Int → Bool} {t : List Int} {k : Nat} {n : Int} (h : t[k]? = some n) : idxTo p t (k + 1) = if p k n = true then idxTo p t k ++ [(k : Int)] else idxTo p t k := by
 rw [idxTo, h];simp only;split <;> simp
theorem idxTo_len (p : Nat → Int → Bool) (t : List Int) : ∀ k, (idxTo p t k).length ≤ k := by
 intro k
 induction k with
 | zero => simp [idxTo]
 | succ k ih =>
  rw [idxTo, List.length_append];split
  ·split <;> simp <;> omega
  ·simp; omega
def isPlain (t : List Int) (k : Nat) (n : Int) : Bool := decide (0 ≤ n ∧ n ∉ t.take k)
def isStrange (k : Nat) (n : Int) : Bool := decide (n < 0)
def isTwice (t : List Int) (k : Nat) (n : Int) : Bool := decide (0 ≤ n ∧ n ∈ t.take k)
def strangeOf (t : List Int) : List Int := idxTo isStrange t t.length
def twiceOf (t : List Int) : List Int := idxTo (isTwice t) t t.length
def gathOf (lv : List Leaf) (x : Int) : Int := match lv[x.toNat]? with | some a => a.g | none => 0
def rnStep (g : Int → Int) (l : List S_copy_run) (i n : Int) : List S_copy_run :=
 match l[l.length - 1]? with
 | some r => if r.last < n ∧ g r.last = g n then l.set (l.length - 1) ⟨r.item, r.first, n⟩ else l ++ [⟨i, n, n⟩]
 | none => l ++ [⟨i, n, n⟩]
def runsTo (g : Int → Int) (t : List Int) : Nat → List S_copy_run
 | 0 => []
 | k + 1 => match t[k]? with | some n => if isPlain t k n = true then rnStep g (runsTo g t k) k n else runsTo g t k | none => runsTo g t k
def runsOf (g : Int → Int) (t : List Int) : List S_copy_run := runsTo g t t.length
def RunOk (n : Nat) (r : S_copy_run) : Prop := 0 ≤ r.first ∧ r.first < n ∧ 0 ≤ r.last ∧ r.last < n
theorem rnStep_ok {g : Int → Int} {l : List S_copy_run} {i n : Int} {N : Nat} (h : ∀ r ∈ l, RunOk N r) (hn : 0 ≤ n ∧ n < N) : ∀ r ∈ rnStep g l i n, RunOk N r := by
 unfold rnStep
 have happ : ∀ r ∈ l ++ [(⟨i, n, n⟩ : S_copy_run)], RunOk N r := fun r hr => by
  rcases List.mem_append.1 hr with hr | hr
  ·exact h r hr
  ·rw [List.mem_singleton] at hr;subst hr;exact ⟨hn.1, hn.2, hn.1, hn.2⟩
 split
 ·rename_i r hr
  split
  ·intro x hx
   rcases List.mem_or_eq_of_mem_set hx with hx | rfl
   ·exact h x hx
   ·have := h r (List.mem_of_getElem? hr);exact ⟨this.1, this.2.1, hn.1, hn.2⟩
  ·exact happ
 ·exact happ
theorem rnStep_len {g : Int → Int} {l : List S_copy_run} {i n : Int} : (rnStep g l i n).length ≤ l.length + 1 := by
 unfold rnStep;split
 ·split <;> simp
 ·simp
theorem runsTo_ok {g : Int → Int} {t : List Int} {N : Nat} (ht : ∀ x ∈ t, x < N) : ∀ k, (∀ r ∈ runsTo g t k, RunOk N r) ∧ (runsTo g t k).length ≤ k := by
 intro k
 induction k with
 | zero => simp [runsTo]
 | succ k ih =>
  rw [runsTo];split
  ·rename_i n hn
   split
   ·rename_i hp
    have h0 : 0 ≤ n := (of_decide_eq_true hp).1;refine ⟨rnStep_ok ih.1 ⟨h0, ht _ (List.mem_of_getElem? hn)⟩, ?_⟩
    have := rnStep_len (g := g) (l := runsTo g t k) (i := k) (n := n);omega
   ·exact ⟨ih.1, by omega⟩
  ·exact ⟨ih.1, by omega⟩
theorem runsTo_succ {g : Int → Int} {t : List Int} {k : Nat} {n : Int} (h : t[k]? = some n) : runsTo g t (k + 1) = if isPlain t k n = true then rnStep g (runsTo g t k) k n else runsTo g t k := by rw [runsTo, h]
def follow (last : Int) (ps : List (S_copy_run × Int)) (a : Int) : Int := ps.foldl (fun a p => if p.1.first > last then max a p.2 else a) a
def chains : List S_copy_run → List Int
 | [] => []
 | r :: l => (follow r.last (l.zip (chains l)) 0 + 1) :: chains l
theorem chains_len : ∀ l, (chains l).length = l.length := by
 intro l
 induction l with
 | nil => rfl
 | cons r l ih => simp [chains, ih]
theorem follow_bounds {last : Int} {M : Int} : ∀ (ps : List (S_copy_run × Int)) (a : Int), (∀ p ∈ ps, p.2 ≤ M) → a ≤ M → a ≤ follow last ps a ∧ follow last ps a ≤ M := by
 intro ps
 induction ps with
 | nil => intro a _ h; exact ⟨Int.le_refl _, h⟩
 | cons p ps ih =>
  intro a h ha
  have hp := h p List.mem_cons_self
  have ht : ∀ p ∈ ps, p.2 ≤ M := fun q hq => h q (List.mem_cons_of_mem _ hq)
  show a ≤ follow last ps (if p.1.first > last then max a p.2 else a) ∧ _;split
  ·have := ih (max a p.2) ht (by omega);exact ⟨by omega, by rw [follow, List.foldl_cons]; rename_i hc; rw [if_pos hc]; exact this.2⟩
  ·have := ih a ht ha;exact ⟨this.1, by rw [follow, List.foldl_cons]; rename_i hc; rw [if_neg hc]; exact this.2⟩
theorem chains_bounds : ∀ (l : List S_copy_run), ∀ m ∈ chains l, 1 ≤ m ∧ m ≤ l.length := by
 intro l
 induction l with
 | nil => intro m h; cases h
 | cons r l ih =>
  intro m h;rw [chains] at h
  rcases List.mem_cons.1 h with rfl | h
  ·have := follow_bounds (last := r.last) (M := l.length) (l.zip (chains l)) 0 (fun p hp => (ih p.2 (List.of_mem_zip hp).2).2) (by omega);rw [List.length_cons];omega
  ·have := ih m h;rw [List.length_cons];omega
def top : List Int → Int
 | [] => 0
 | m :: ms => max (top ms) m
theorem top_bounds {M : Int} (hM : 0 ≤ M) : ∀ l : List Int, (∀ m ∈ l, m ≤ M) → 0 ≤ top l ∧ top l ≤ M := by
 intro l
 induction l with
 | nil => intro _; exact ⟨Int.le_refl _, hM⟩
 | cons a l ih =>
  intro h
  have := ih fun m hm => h m (List.mem_cons_of_mem _ hm)
  have := h a List.mem_cons_self;rw [top];omega
def movedFrom : List (S_copy_run × Int) → Int → Int → List Int
 | [], _, _ => []
 | p :: ps, b, last => if p.2 = b ∧ p.1.first > last then movedFrom ps (b - 1) p.1.last else p.1.item :: movedFrom ps b last
def movedOf (l : List S_copy_run) : List Int := movedFrom (l.zip (chains l)) (top (chains l)) (-1)
theorem movedFrom_len : ∀ (ps : List (S_copy_run × Int)) (b last : Int), (movedFrom ps b last).length ≤ ps.length := by
 intro ps
 induction ps with
 | nil => intro b last; exact Nat.le_refl _
 | cons p ps ih =>
  intro b last;rw [movedFrom];split
  ·have := ih (b - 1) p.1.last;rw [List.length_cons]; omega
  ·have := ih b last;rw [List.length_cons, List.length_cons]; omega
theorem movedOf_len (l : List S_copy_run) : (movedOf l).length ≤ l.length := by
 have := movedFrom_len (l.zip (chains l)) (top (chains l)) (-1);unfold movedOf;rw [List.length_zip, chains_len] at this;omega
def row (l : List S_copy_run) (i : Nat) : List Int := List.replicate i 0 ++ (chains (l.drop i) ++ List.replicate (120 - l.length) 0)
theorem row_len {l : List S_copy_run} {i : Nat} (h : l.length ≤ 120) (hi : i ≤ l.length) : (row l i).length = 120 := by
 unfold row;rw [List.length_append, List.length_append, List.length_replicate, List.length_replicate, chains_len, List.length_drop];omega
theorem row_get {l : List S_copy_run} {i k : Nat} (hk : i ≤ k) (hl : k < l.length) : (row l i)[k]? = (chains (l.drop i))[k - i]? := by
 unfold row;rw [List.getElem?_append_right (by rw [List.length_replicate]; exact hk), List.length_replicate, List.getElem?_append_left (by rw [chains_len, List.length_drop]; omega)]
theorem inner_ok {l : List S_copy_run} {i : Nat} {r : S_copy_run} (hl : l.length ≤ 120) (hr : l[i]? = some r) :
  iter (P_c_moved_L2 l i) (((i : Int) + 1), row l (i + 1)) = some ((row l (i + 1)).set i (follow r.last ((l.drop (i + 1)).zip (chains (l.drop (i + 1)))) 0)) := by
 have hi : i < l.length := (List.getElem?_eq_some_iff.1 hr).1;refine Ok.get ?_
 have hz : (row l (i + 1))[i]? = some 0 := by
  unfold row;rw [List.getElem?_append_left (by rw [List.length_replicate]; omega)];simp
 have hset0 : (row l (i + 1)).set i 0 = row l (i + 1) := by
  obtain ⟨h1, h2⟩ := List.getElem?_eq_some_iff.1 hz;rw [← h2, List.set_getElem_self]
 have hrl := row_len hl (show i + 1 ≤ l.length by omega);refine Ok.count (fun s => s.1 - ((i : Int) + 1)) (l.length - (i + 1)) (fun k s => s.2 = (row l (i + 1)).set i (follow r.last (((l.drop (i + 1)).zip (chains (l.drop (i + 1)))).take k) 0)) (by simp only; omega) (by simp only [List.take_zero]; exact hset0.symm) ?_ ?_
 ·rintro k ⟨kk, many⟩ hk hx hm;simp only at hx hm
  have hkk : kk = ((i + 1 + k : Nat) : Int) := by omega
  subst hkk;subst hm
  have hlen : ((row l (i + 1)).set i (follow r.last (((l.drop (i + 1)).zip (chains (l.drop (i + 1)))).take k) 0)).length = 120 := by rw [List.length_set, hrl]
  have hd : (l.drop (i + 1))[k]? = l[i + 1 + k]? := by rw [List.getElem?_drop]
  have hck : k < (chains (l.drop (i + 1))).length := by rw [chains_len, List.length_drop]; omega
  have hdk : k < (l.drop (i + 1)).length := by rw [List.length_drop]; omega
  have hzip : ((l.drop (i + 1)).zip (chains (l.drop (i + 1))))[k]? = some ((l.drop (i + 1))[k], (chains (l.drop (i + 1)))[k]) := by
   rw [List.getElem?_zip_eq_some];exact ⟨List.getElem?_eq_getElem hdk, List.getElem?_eq_getElem hck⟩
  have hf : follow r.last (((l.drop (i + 1)).zip (chains (l.drop (i + 1)))).take (k + 1)) 0 = (if (l.drop (i + 1))[k].first > r.last then max (follow r.last (((l.drop (i + 1)).zip (chains (l.drop (i + 1)))).take k) 0) (chains (l.drop (i + 1)))[k] else follow r.last (((l.drop (i + 1)).zip (chains (l.drop (i + 1)))).take k) 0) := by
   rw [take_snoc hzip, follow, List.foldl_append];rfl
  have hri : (row l (i + 1))[i + 1 + k]? = some (chains (l.drop (i + 1)))[k] := by
   rw [row_get (by omega) (by omega), show i + 1 + k - (i + 1) = k by omega, List.getElem?_eq_getElem hck]
  have hA : l[i + 1 + k]? = some (l.drop (i + 1))[k] := by rw [← hd, List.getElem?_eq_getElem hdk]
  generalize hF : follow r.last (((l.drop (i + 1)).zip (chains (l.drop (i + 1)))).take k) 0 = F at *;unfold P_c_moved_L2;refine .ifp (by omega) (Ok.andx (P := fun m => m = (row l (i + 1)).set i (follow r.last (((l.drop (i + 1)).zip (chains (l.drop (i + 1)))).take (k + 1)) 0)) ?_ ?_)
  ·refine .el (by omega) fun a ha => ?_
   have ha := get_of ha rfl;rw [hA] at ha;cases ha;refine .el (by omega) fun b hb => ?_
   have hb := get_of hb rfl;rw [hr] at hb;cases hb;refine .ite (fun hc => ?_) (fun hc => ?_)
   ·refine .chk (by rw [hlen]; rfl) (.el (by rw [hlen]; omega) fun x hx1 => ?_)
    have hx1 := get_of hx1 rfl;rw [List.getElem?_set_self (by rw [hrl]; omega)] at hx1;cases hx1;refine .chk (by rw [hlen]; rfl) (.el (by rw [hlen]; omega) fun y hy1 => ?_)
    have hy1 := get_of hy1 rfl;rw [List.getElem?_set_ne (by omega), hri] at hy1;cases hy1;refine .chk (by rw [hlen]; rfl) (.el (by rw [hlen]; omega) fun w hw1 => .some ?_)
    show _ = _;rw [hf, if_pos hc, Int.toNat_natCast, List.set_set]
   ·refine .some ?_
    show _ = _;rw [hf, if_neg hc]
  ·rintro m rfl;exact .chk (i64_small (by omega)) (.some ⟨by simp only; omega, rfl⟩)
 ·rintro ⟨kk, many⟩ hx hm;simp only at hx hm;unfold P_c_moved_L2;refine .ifn (by omega) (.some ?_)
  show many = _;rw [hm, List.take_of_length_le (by rw [List.length_zip, chains_len, List.length_drop]; omega)]
theorem row_step {l : List S_copy_run} {i : Nat} {r : S_copy_run} (hr : l[i]? = some r) : (row l (i + 1)).set i (follow r.last ((l.drop (i + 1)).zip (chains (l.drop (i + 1)))) 0 + 1) = row l i := by
 have e : List.replicate (i + 1) (0 : Int) = List.replicate i 0 ++ [0] := List.replicate_succ';unfold row;rw [e, List.append_assoc, List.set_append_right _ _ (by rw [List.length_replicate]; omega), List.length_replicate, Nat.sub_self, drop_cons hr, chains];rfl
theorem moved_ok {l : List S_copy_run} {N : Nat} (hl : l.length ≤ 120) (hr : ∀ r ∈ l, RunOk N r) : P_c_moved l = some (movedOf l) := by
 refine Ok.get ?_;unfold P_c_moved
 have hcb := chains_bounds;refine Ok.andx (P := fun s => s = (top (chains l), row l 0)) (.chk (i64_small (by omega)) ?_) ?_
 ·refine Ok.count (fun s => ((l.length : Int) - 1) - s.2.1) l.length (fun k s => s.1 = top (chains (l.drop (l.length - k))) ∧ s.2.2 = row l (l.length - k)) (by simp only; omega) ⟨by simp [chains, top], ?_⟩ ?_ ?_
  ·simp only [Nat.sub_zero, row, List.drop_length, chains, List.nil_append];rw [List.replicate_append_replicate, show l.length + (120 - l.length) = 120 by omega]
  ·rintro k ⟨best, i, many⟩ hk hx ⟨hb, hm⟩;simp only at hx hb hm;obtain ⟨j, hj⟩ : ∃ j : Nat, j = l.length - 1 - k := ⟨_, rfl⟩
   have hi : i = (j : Int) := by omega
   subst hi
   have hjl : j < l.length := by omega
   obtain ⟨r, hrj⟩ : ∃ r, l[j]? = some r := ⟨_, List.getElem?_eq_getElem hjl⟩
   have e1 : l.length - k = j + 1 := by omega
   have e2 : l.length - (k + 1) = j := by omega
   rw [e1] at hb hm;subst hb hm
   have hset : ∀ x, (((row l (j + 1)).set j x).length : Int) * 1 = 120 := fun x => by rw [List.length_set, row_len hl (by omega)]; rfl
   have hch : chains (l.drop j) = (follow r.last ((l.drop (j + 1)).zip (chains (l.drop (j + 1)))) 0 + 1) :: chains (l.drop (j + 1)) := by rw [drop_cons hrj, chains]
   have hbd := hcb (l.drop j) (follow r.last ((l.drop (j + 1)).zip (chains (l.drop (j + 1)))) 0 + 1) (by rw [hch]; exact List.mem_cons_self)
   have hld : (l.drop j).length ≤ 120 := by rw [List.length_drop]; omega
   generalize hF : follow r.last ((l.drop (j + 1)).zip (chains (l.drop (j + 1)))) 0 = F at *;unfold P_c_moved_L1;refine .ifp (by omega) (Ok.andx (P := fun s => s = (top (chains (l.drop j)), row l j)) ?_ ?_)
   ·refine Ok.andx' (a := (row l (j + 1)).set j F) ?_ ?_
    ·have := inner_ok hl hrj;rw [hF] at this;rw [chk_pos (i64_small (by omega))];exact this
    ·refine .chk (hset _) (.el (by rw [List.length_set, row_len hl (by omega)]; omega) fun a ha => ?_)
     have ha := get_of ha rfl;rw [List.getElem?_set_self (by rw [row_len hl (by omega)]; omega)] at ha;cases ha;refine .chk (i64_small (by omega)) (.chk (hset _) (.el (by rw [List.length_set, row_len hl (by omega)]; omega) fun b hb => ?_));rw [Int.toNat_natCast, List.set_set];refine .chk (hset _) (.el (by rw [List.length_set, row_len hl (by omega)]; omega) fun c hc => .some ?_)
     have hc := get_of hc rfl;rw [List.getElem?_set_self (by rw [row_len hl (by omega)]; omega)] at hc;cases hc
     show _ = _
     have := row_step hrj;rw [hF] at this;rw [hch, top, this]
   ·rintro s rfl;refine .chk (i64_small (by omega)) (.some ⟨by simp only; omega, ?_, ?_⟩)
    ·simp only [e2]
    ·simp only [e2]
  ·rintro ⟨best, i, many⟩ hx ⟨hb, hm⟩;simp only at hx hb hm;unfold P_c_moved_L1;refine .ifn (by omega) (.some ?_)
   show _ = _;rw [hb, hm, Nat.sub_self, List.drop_zero]
 ·rintro s rfl
  have hrow : ∀ k (hk : k < l.length), (row l 0)[k]? = some ((chains l)[k]'(by rw [chains_len]; exact hk)) := fun k hk => by
   rw [row_get (Nat.zero_le _) hk, List.drop_zero, Nat.sub_zero, List.getElem?_eq_getElem (by rw [chains_len]; exact hk)]
  have hl120 := row_len hl (Nat.zero_le _)
  have htop := top_bounds (M := 120) (by omega) (chains l) fun m hm => by have := hcb l m hm; omega
  refine Ok.andx (P := fun s : Int × Int × Int × List Int => s.2.2.2 = movedOf l) (Ok.count (fun s : Int × Int × List Int × Int × Int × Int => s.2.1) l.length (fun k s => movedOf l = s.2.2.1 ++ movedFrom ((l.zip (chains l)).drop k) s.1 s.2.2.2.2.2 ∧ s.2.2.1.length ≤ k ∧ -200 - (k : Int) ≤ s.1 ∧ s.1 ≤ 120 ∧ (s.2.2.2 = (-1, -1, -1) ∨ 0 ≤ s.2.2.2.2.1 ∧ 0 ≤ s.2.2.2.2.2)) rfl ⟨by simp only [List.nil_append, List.drop_zero]; rfl, Nat.le_refl _, by simp only; omega, by simp only; omega, .inl rfl⟩ ?_ ?_) ?_
  ·rintro k ⟨best, x, items, li, lf, ll⟩ hk hx ⟨h1, h2, h3, h4, h5⟩;simp only at hx h1 h2 h3 h4 h5;subst hx
   have hck : k < (chains l).length := by rw [chains_len]; exact hk
   have hzip : (l.zip (chains l))[k]? = some (l[k], (chains l)[k]) := by
    rw [List.getElem?_zip_eq_some];exact ⟨List.getElem?_eq_getElem hk, List.getElem?_eq_getElem hck⟩
   have hrk := hr l[k] (List.getElem_mem hk);rw [drop_cons hzip, movedFrom] at h1;simp only at h1;unfold P_c_moved_L3;refine .ifp (by omega) (Ok.andx (P := fun s : Int × List Int × Int × Int × Int => movedOf l = s.2.1 ++ movedFrom ((l.zip (chains l)).drop (k + 1)) s.1 s.2.2.2.2 ∧ s.2.1.length ≤ k + 1 ∧ -200 - ((k : Int) + 1) ≤ s.1 ∧ s.1 ≤ 120 ∧ (s.2.2 = (-1, -1, -1) ∨ 0 ≤ s.2.2.2.1 ∧ 0 ≤ s.2.2.2.2)) ?_ ?_)
   ·refine .el (by omega) fun a ha => ?_
    have ha := get_of ha rfl;rw [List.getElem?_eq_getElem hk] at ha;cases ha;refine Ok.andx (P := fun b : Bool => b = true ↔ ((chains l)[k] = best ∧ l[k].first > ll)) ?_ ?_
    ·refine .chk (by rw [hl120]; rfl) (.el (by rw [hl120]; omega) fun m hm => ?_)
     have hm := get_of hm rfl;rw [hrow k hk] at hm;cases hm;refine .ite (fun hc => ?_) (fun hc => ?_)
     ·refine .ite (fun hd => ?_) (fun hd => ?_)
      ·exact .some (by simp only [true_iff]; exact ⟨hc, by rw [hd.2.2]; have := hrk.1; omega⟩)
      ·exact .some (by rw [decide_eq_true_iff]; exact ⟨fun h => ⟨hc, h⟩, fun h => h.2⟩)
     ·exact .some (by simp only [Bool.false_eq_true, false_iff]; exact fun h => hc h.1)
    ·rintro b hb;refine .ite (fun hc => ?_) (fun hc => ?_)
     ·rw [if_pos (hb.1 hc)] at h1;exact .chk (i64_small (by omega)) (.some ⟨h1, by simp only; omega, by simp only; omega, by simp only; omega, .inr ⟨hrk.1, hrk.2.2.1⟩⟩)
     ·rw [if_neg (fun h => hc (hb.2 h))] at h1;refine .chk (by simp; omega) (.some ⟨?_, by simp; omega, by simp only; omega, by simp only; omega, h5⟩);simp only;rw [h1, List.append_assoc];rfl
   ·rintro ⟨b', it', li', lf', ll'⟩ ⟨q1, q2, q3, q4, q5⟩;exact .chk (i64_small (by omega)) (.some ⟨rfl, q1, q2, by simp only at q3 ⊢; omega, q4, q5⟩)
  ·rintro ⟨best, x, items, li, lf, ll⟩ hx ⟨h1, h2, h3, h4, h5⟩;simp only at hx h1;unfold P_c_moved_L3;refine .ifn (by omega) (.some ?_)
   show items = _;rw [h1, List.drop_eq_nil_of_le (by rw [List.length_zip, chains_len]; omega), movedFrom, List.append_nil]
  ·rintro ⟨a, b, c, d⟩ h;exact .some h
end Go.Am
end
section
namespace Go.Am
set_option linter.unusedVariables false
def mateF (mt : List Int) (x : Int) : Int := match mt[x.toNat]? with | some m => m | none => -1
def isPiece (mt gone : List Int) (x : Int) : Bool := decide (mateF mt x < 0 ∨ mateF mt x > x ∨ mateF mt x ∉ gone)
def piecesOf (mt gone : List Int) : Int := (gone.countP (isPiece mt gone) : Nat)
theorem piecesOf_le (mt gone : List Int) : 0 ≤ piecesOf mt gone ∧ piecesOf mt gone ≤ gone.length := by
 unfold piecesOf
 have := List.countP_le_length (p := isPiece mt gone) (l := gone);omega
theorem mem_lostOf {n : Nat} {t : List Int} {x : Int} : x ∈ lostOf n t ↔ 0 ≤ x ∧ x < n ∧ x ∉ t := by
 unfold lostOf;simp only [List.mem_filter, List.mem_map, List.mem_range, decide_eq_true_eq]
 constructor
 ·rintro ⟨⟨i, hi, rfl⟩, h⟩; exact ⟨by omega, by omega, h⟩
 ·rintro ⟨h0, h1, h2⟩; exact ⟨⟨x.toNat, by omega, by omega⟩, h2⟩
theorem lostOf_sorted (n : Nat) (t : List Int) : (lostOf n t).Pairwise (· < ·) := by
 induction n with
 | zero => exact .nil
 | succ n ih =>
  rw [lostOf_succ];split
  ·rw [List.pairwise_append];refine ⟨ih, List.pairwise_singleton _ _, fun a ha b hb => ?_⟩;rw [List.mem_singleton] at hb;subst hb;exact (mem_lostOf.1 ha).2.1
  ·exact ih
theorem sorted_take {l : List Int} (hs : l.Pairwise (· < ·)) {k : Nat} {a x : Int} (ha : l[k]? = some a) : x ∈ l.take (k + 1) ↔ x ∈ l ∧ x ≤ a := by
 obtain ⟨hk, rfl⟩ := List.getElem?_eq_some_iff.1 ha;rw [List.pairwise_iff_getElem] at hs
 constructor
 ·intro h;refine ⟨List.mem_of_mem_take h, ?_⟩;obtain ⟨j, hj, rfl⟩ := List.mem_iff_getElem.1 h;rw [List.getElem_take];rw [List.length_take] at hj
  by_cases e : j = k
  ·subst e; exact Int.le_refl _
  ·exact Int.le_of_lt (hs j k (by omega) hk (by omega))
 ·rintro ⟨h, hle⟩;obtain ⟨j, hj, rfl⟩ := List.mem_iff_getElem.1 h
  have hjk : j ≤ k := by
   by_cases e : j ≤ k
   ·exact e
   ·have := hs k j hk hj (by omega); omega
  exact List.mem_iff_getElem.2 ⟨j, by rw [List.length_take]; omega, by rw [List.getElem_take]⟩
theorem pieces_ok {mt gone : List Int} (hs : gone.Pairwise (· < ·)) (hr : ∀ x ∈ gone, 0 ≤ x ∧ x < mt.length) (hl : gone.length ≤ 1000000) :
  ∃ m, iter (P_c_faults_L1 mt gone) (0, (fun _ => 0), 0) = some (m, piecesOf mt gone) := by
 suffices h : Ok (iter (P_c_faults_L1 mt gone) (0, (fun _ => 0), 0)) (fun s => s.2 = piecesOf mt gone) by
  obtain ⟨⟨m, p⟩, h1, h2⟩ := h;exact ⟨m, by rw [h1, ← h2]⟩
 refine Ok.count (fun s => s.1) gone.length (fun k (s : Int × (Int → Int) × Int) => s.2.1 = cntOf (gone.take k) ∧ s.2.2 = (((gone.take k).countP (isPiece mt gone) : Nat) : Int)) rfl ⟨rfl, rfl⟩ ?_ ?_
 ·rintro k ⟨x, m, fp⟩ hk hx ⟨hm, hp⟩;simp only at hx hm hp;subst hx hm hp;unfold P_c_faults_L1
  have hcl := List.countP_le_length (p := isPiece mt gone) (l := gone.take k)
  have htl : (gone.take k).length ≤ 1000000 := by rw [List.length_take]; omega
  refine .ifp (by omega) (Ok.andx (P := fun s : (Int → Int) × Int => s.1 = cntOf (gone.take (k + 1)) ∧ s.2 = (((gone.take (k + 1)).countP (isPiece mt gone) : Nat) : Int)) ?_ ?_)
  ·refine .el (by omega) fun a ha => ?_
   have ha := get_of ha rfl
   have har := hr a (List.mem_of_getElem? ha);refine .el har fun b hb => ?_
   have hmf : mateF mt a = b := by unfold mateF; rw [hb]
   have hc := cntOf_le (gone.take k) a
   have hsn : putI (cntOf (gone.take k)) a (cntOf (gone.take k) a + 1) = cntOf (gone.take (k + 1)) := by rw [take_snoc ha, cntOf_snoc]
   have hcp : (gone.take (k + 1)).countP (isPiece mt gone) = (gone.take k).countP (isPiece mt gone) + (if isPiece mt gone a = true then 1 else 0) := by
    rw [take_snoc ha, List.countP_append, List.countP_singleton]
   refine .chk (i64_small (by omega)) (Ok.andx (P := fun c : Bool => c = true ↔ isPiece mt gone a = true) ?_ ?_)
   ·rw [hsn];unfold isPiece;rw [hmf, decide_eq_true_iff];refine .ite (fun h => .some ?_) (fun h => .some ?_)
    ·simp only [true_iff]; exact .inl h
    ·rw [decide_eq_true_iff, cntOf_zero, sorted_take hs ha]
     constructor
     ·intro h2
      by_cases hb2 : b ∈ gone
      ·exact .inr (.inl (by have : ¬ b ≤ a := fun h3 => h2 ⟨hb2, h3⟩; omega))
      ·exact .inr (.inr hb2)
     ·rintro (h2 | h2 | h2) ⟨h3, h4⟩
      ·exact h h2
      ·omega
      ·exact h2 h3
   ·rintro c hcc;rw [hsn];refine .ite (fun h => ?_) (fun h => ?_)
    ·refine .chk (i64_small (by omega)) (.some ⟨rfl, ?_⟩);simp only;rw [hcp, if_pos (hcc.1 h)];rfl
    ·refine .some ⟨rfl, ?_⟩;simp only;rw [hcp, if_neg (fun e => h (hcc.2 e))];rfl
  ·rintro ⟨m', p'⟩ ⟨h1, h2⟩;exact .chk (i64_small (by omega)) (.some ⟨rfl, h1, h2⟩)
 ·rintro ⟨x, m, fp⟩ hx ⟨hm, hp⟩;simp only at hx hm hp;unfold P_c_faults_L1;refine .ifn (by omega) (.some ?_)
  show fp = _;rw [hp, List.take_length]; rfl
def TruthIn (n : Nat) (t : List Int) : Prop := ∀ x ∈ t, x < n
theorem runs_loop {lv : List Leaf} {t : List Int} (ht : t.length ≤ 120) (hin : TruthIn lv.length t) :
  ∃ m, iter (P_c_faults_L2 lv t) (0, [], [], [], (fun _ => 0)) = some (m, runsOf (gathOf lv) t, strangeOf t, twiceOf t) := by
 suffices h : Ok (iter (P_c_faults_L2 lv t) (0, [], [], [], (fun _ => 0))) (fun s => s.2 = (runsOf (gathOf lv) t, strangeOf t, twiceOf t)) by
  obtain ⟨⟨m, p⟩, h1, h2⟩ := h;exact ⟨m, by rw [h1, ← h2]⟩
 refine Ok.count (fun s => s.1) t.length (fun k s => s.2.1 = runsTo (gathOf lv) t k ∧ s.2.2.1 = idxTo isStrange t k ∧ s.2.2.2.1 = idxTo (isTwice t) t k ∧ ∀ a, 0 ≤ a → s.2.2.2.2 a = cntOf (t.take k) a) rfl ⟨rfl, rfl, rfl, fun a _ => by simp [cntOf]⟩ ?_ ?_
 ·rintro k ⟨x, l, st, tw, m⟩ hk hx ⟨hl, hst, htw, hm⟩;simp only at hx hl hst htw hm;subst hx hl hst htw
  have hro := runsTo_ok (g := gathOf lv) hin k
  have hs1 := idxTo_len isStrange t k
  have hs2 := idxTo_len (isTwice t) t k;unfold P_c_faults_L2;refine .ifp (by omega) (Ok.andx (P := fun s : List S_copy_run × List Int × List Int × (Int → Int) => s.1 = runsTo (gathOf lv) t (k + 1) ∧ s.2.1 = idxTo isStrange t (k + 1) ∧ s.2.2.1 = idxTo (isTwice t) t (k + 1) ∧ ∀ a, 0 ≤ a → s.2.2.2 a = cntOf (t.take (k + 1)) a) ?_ ?_)
  ·refine .el (by omega) fun n hn => ?_
   have hn := get_of hn rfl
   have hnl := hin n (List.mem_of_getElem? hn);rw [runsTo_succ hn, idxTo_succ hn, idxTo_succ hn];refine .ite (fun h0 => ?_) (fun h0 => ?_)
   ·have e1 : isPlain t k n = false := decide_eq_false (by omega)
    have e2 : isStrange k n = true := decide_eq_true h0
    have e3 : isTwice t k n = false := decide_eq_false (by omega);rw [e1, e2, e3];refine .chk (by simp; omega) (.some ⟨rfl, rfl, rfl, fun a ha => ?_⟩);simp only;rw [hm a ha, take_snoc hn, cntOf_snoc, putI_ne (by omega)]
   ·have hc := cntOf_le (t.take k) n
    have htl : (t.take k).length ≤ 120 := by rw [List.length_take]; omega
    have hmn := hm n (by omega)
    have e2 : isStrange k n = false := decide_eq_false h0;rw [e2]
    have hm' : ∀ a, 0 ≤ a → putI m n (m n + 1) a = cntOf (t.take (k + 1)) a := fun a ha => by
     rw [take_snoc hn, cntOf_snoc]
     by_cases e : a = n
     ·subst e; rw [putI_same, putI_same, hmn]
     ·rw [putI_ne e, putI_ne e, hm a ha]
    refine .chk (i64_small (by omega)) (.ite (fun h1 => ?_) (fun h1 => ?_))
    ·rw [putI_same, hmn] at h1
     have hin' := (cntOf_pos (t.take k) n).1 (by omega)
     have e1 : isPlain t k n = false := decide_eq_false (fun h => h.2 hin')
     have e3 : isTwice t k n = true := decide_eq_true ⟨by omega, hin'⟩;rw [e1, e3];exact .chk (by simp; omega) (.some ⟨rfl, rfl, rfl, hm'⟩)
    ·rw [putI_same, hmn] at h1
     have hin' : n ∉ t.take k := fun h => h1 (by have := (cntOf_pos (t.take k) n).2 h; omega)
     have e1 : isPlain t k n = true := decide_eq_true ⟨by omega, hin'⟩
     have e3 : isTwice t k n = false := decide_eq_false (fun h => hin' h.2);rw [e1, e3];generalize hL : runsTo (gathOf lv) t k = L at *;refine Ok.seqx ?_;refine .chk (i64_small (by omega)) (Ok.andx (P := fun b : Bool => (b = true ∧ ∃ r, L[L.length - 1]? = some r ∧ r.last < n ∧ gathOf lv r.last = gathOf lv n) ∨ (b = false ∧ rnStep (gathOf lv) L k n = L ++ [⟨k, n, n⟩])) ?_ ?_)
     ·refine .ite (fun h2 => ?_) (fun h2 => ?_)
      ·refine .el (by omega) fun r hr => ?_
       have hr : L[L.length - 1]? = some r := get_of hr (by omega)
       have hrk := hro.1 r (List.mem_of_getElem? hr);refine .ite (fun h3 => ?_) (fun h3 => ?_)
       ·refine .el (by omega) fun r' hr' => ?_
        have hr' : L[L.length - 1]? = some r' := get_of hr' (by omega);rw [hr] at hr';cases hr';refine .el ⟨hrk.2.2.1, hrk.2.2.2⟩ fun a ha => .el ⟨by omega, hnl⟩ fun b hb => .some ?_
        have ga : gathOf lv r.last = a.g := by unfold gathOf; rw [ha]
        have gb : gathOf lv n = b.g := by unfold gathOf; rw [hb]
        by_cases e : a.g = b.g
        ·exact .inl ⟨decide_eq_true e, r, hr, h3, by rw [ga, gb, e]⟩
        ·refine .inr ⟨decide_eq_false e, ?_⟩;unfold rnStep;rw [hr];simp only;rw [if_neg (fun h => e (by rw [← ga, ← gb]; exact h.2))]
       ·refine .some (.inr ⟨rfl, ?_⟩);unfold rnStep;rw [hr];simp only;rw [if_neg (fun h => h3 h.1)]
      ·refine .some (.inr ⟨rfl, ?_⟩)
       have : L = [] := List.eq_nil_of_length_eq_zero (by omega);subst this;rfl
     ·rintro b (⟨rfl, r, hr, h3, h4⟩ | ⟨rfl, h3⟩)
      ·have hlt := (List.getElem?_eq_some_iff.1 hr).1;refine .ifp rfl (.el (by omega) fun r' hr' => ?_)
       have hr' : L[L.length - 1]? = some r' := get_of hr' (by omega);rw [hr] at hr';cases hr';refine .some ⟨?_, rfl, rfl, hm'⟩;simp only;unfold rnStep;rw [hr];simp only;rw [if_pos (c := r.last < n ∧ gathOf lv r.last = gathOf lv n) ⟨h3, h4⟩, show ((L.length : Int) - 1).toNat = L.length - 1 by omega];simp only [if_true]
      ·refine .ifn (by simp) (.some ?_)
       show Ok _ _;refine .chk (by simp; omega) (.some ⟨?_, rfl, rfl, hm'⟩);simp only;rw [if_pos trivial, h3]
  ·rintro ⟨l', st', tw', m'⟩ ⟨q1, q2, q3, q4⟩;exact .chk (i64_small (by omega)) (.some ⟨rfl, q1, q2, q3, q4⟩)
 ·rintro ⟨x, l, st, tw, m⟩ hx ⟨hl, hst, htw, hm⟩;simp only at hx hl hst htw;unfold P_c_faults_L2;refine .ifn (by omega) (.some ?_)
  show (l, st, tw) = _;rw [hl, hst, htw];rfl
def allOf (n : Nat) (mt : List Int) (g : Int → Int) (t : List Int) : Int := piecesOf mt (lostOf n t) + (strangeOf t).length + (twiceOf t).length + (movedOf (runsOf g t)).length
theorem faults_ok {s : Int} {g : List Gat} {its : List Item} {lv : List Leaf} {mt t : List Int} (hlv : lv.length ≤ 120) (hmt : mt.length = lv.length) (ht : t.length ≤ 120) (hin : TruthIn lv.length t) :
  P_c_faults s g its lv mt t = some ([], lostOf lv.length t, piecesOf mt (lostOf lv.length t), strangeOf t, twiceOf t, movedOf (runsOf (gathOf lv) t), allOf lv.length mt (gathOf lv) t) := by
 refine Ok.get ?_;unfold P_c_faults
 have hl := lostOf_len lv.length t
 have hp := piecesOf_le mt (lostOf lv.length t)
 have h1 : (strangeOf t).length ≤ 120 := Nat.le_trans (idxTo_len _ _ _) ht
 have h2 : (twiceOf t).length ≤ 120 := Nat.le_trans (idxTo_len _ _ _) ht
 have hr := runsTo_ok (g := gathOf lv) hin t.length
 have hm := movedOf_len (runsOf (gathOf lv) t)
 have hrl : (runsOf (gathOf lv) t).length ≤ t.length := hr.2;refine .andx' (lost_ok (by omega) (by omega)) ?_;obtain ⟨m1, e1⟩ := pieces_ok (mt := mt) (lostOf_sorted lv.length t) (fun x hx => by have := mem_lostOf.1 hx; rw [hmt]; omega) (by omega);refine .andx' e1 ?_;obtain ⟨m2, e2⟩ := runs_loop ht hin;refine .andx' e2 ?_;refine .andx' (moved_ok (by omega) hr.1) ?_;refine .chk (i64_small (by omega)) (.chk (i64_small (by omega)) (.chk (i64_small (by omega)) (.some rfl)))
end Go.Am
end
section
namespace Go.Am
def BadOrder (l : List Int) : Prop := ∃ (i : Nat) (a b : Int), l[i]? = some a ∧ l[i + 1]? = some b ∧ b ≤ a
open Classical in
noncomputable def itemErr (l : List Int) (n : Int) : Int := if 4 < l.length then 3 else if ∃ x ∈ l, x < 0 ∨ n - 1 < x then 4 else if BadOrder l then 2 else 0
noncomputable def itemsErr (n : Int) : Nat → List Item → Option (Nat × Int)
 | _, [] => none
 | i, x :: l => if itemErr x.could.l n = 0 then itemsErr n (i + 1) l else some (i, itemErr x.could.l n)
def doubtsErr : Nat → Nat → List Item → Option Nat
 | _, _, [] => none
 | d, i, x :: l => if 3 < (if 1 < x.could.l.length then d + 1 else d) then some i else doubtsErr (if 1 < x.could.l.length then d + 1 else d) (i + 1) l
noncomputable def caseErr (s : Int) (g : List Gat) (its : List Item) : Int × Int × Int :=
 if (bookErr (bk s g)).2.2 = 0 then
  if 120 < (leavesOf (bk s g)).length then (1, 0, 3)
  else if 120 < its.length then (2, 0, 3)
  else match itemsErr (leavesOf (bk s g)).length 0 its with
   | some (i, e) => (2, (i : Int), e)
   | none => match doubtsErr 0 0 its with
    | some i => (3, (i : Int), 3)
    | none => (0, 0, 0)
 else (1, 0, (bookErr (bk s g)).2.2)
theorem in_ok {n lo hi : Int} : P_r4_in n lo hi = some (decide (lo ≤ n ∧ n ≤ hi)) := by
 unfold P_r4_in
 by_cases h : n ≥ lo
 ·rw [if_pos h]; simp [andx, show lo ≤ n from h]
 ·rw [if_neg h]; simp [andx, show ¬ lo ≤ n from h]
theorem item_ok {l : List Int} {n : Int} (hn : 0 ≤ n ∧ n ≤ 1000000) : P_r4_item l n = some (itemErr l n) := by
 refine Ok.get ?_;unfold P_r4_item itemErr;refine .ite (fun h => ?_) (fun h => ?_)
 ·rw [if_pos (by omega)]; exact .some rfl
 ·rw [if_neg (by omega)];refine Ok.seqx (Ok.count id l.length (fun k s => ∀ x ∈ l.take k, ¬ (x < 0 ∨ n - 1 < x)) rfl (by simp) ?_ ?_)
  ·rintro k x hk hx hi;simp only [id] at hx;unfold P_r4_item_L1;refine .ifp (by omega) (.el (by omega) fun a ha => .chk (i64_small (by omega)) (.andx' in_ok ?_))
   have ha := get_of ha hx;refine .ite (fun hc => ?_) (fun hc => ?_)
   ·refine .chk (i64_small (by omega)) (.some ⟨by simp only [id]; omega, ?_⟩)
    show ∀ y ∈ l.take (k + 1), _;rw [take_snoc ha];intro y hy
    rcases List.mem_append.1 hy with hy | hy
    ·exact hi y hy
    ·simp at hy; subst hy; simp at hc; omega
   ·refine .some ?_
    show 4 = _;rw [if_pos ⟨a, List.mem_of_getElem? ha, by simp at hc; omega⟩]
  ·rintro x hx hi;simp only [id] at hx;unfold P_r4_item_L1;rw [List.take_length] at hi;refine .ifn (by omega) (.some ?_)
   show Ok _ _;rw [if_neg (fun ⟨y, h1, h2⟩ => hi y h1 h2)];refine Ok.seqx (Ok.iter (fun i => 1 ≤ i ∧ ∀ (k : Nat) (a b : Int), (k : Int) + 1 < i → l[k]? = some a → l[k + 1]? = some b → a < b) (fun i => l.length - i.toNat) ⟨by omega, fun k a b h => by omega⟩ ?_);rintro i ⟨h1, h2⟩;unfold P_r4_item_L2;refine .ite (fun hc => ?_) (fun hc => ?_)
   ·refine .el (by omega) fun b hb => .chk (i64_small (by omega)) (.el (by omega) fun a ha => ?_)
    have e : i.toNat = (i - 1).toNat + 1 := by omega
    rw [e] at hb;refine .ite (fun hd => .some ?_) (fun hd => .chk (i64_small (by omega)) (.some ⟨⟨by omega, ?_⟩, by simp only; omega⟩))
    ·show 2 = _;rw [if_pos ⟨_, a, b, ha, hb, hd⟩]
    ·intro k a' b' hk ha' hb'
     by_cases hk' : (k : Int) + 1 < i
     ·exact h2 k a' b' hk' ha' hb'
     ·have : k = (i - 1).toNat := by omega
      subst this;rw [ha] at ha'; rw [hb] at hb';cases ha'; cases hb';omega
   ·refine .some ?_
    show Ok _ _;refine .some ?_;rw [if_neg];rintro ⟨k, a, b, ha, hb, hd⟩
    have := (List.getElem?_eq_some_iff.1 hb).1
    have := h2 k a b (by omega) ha hb;omega
theorem itemsErr_drop {n : Int} {l : List Item} {k : Nat} {x : Item} (h : l[k]? = some x) : itemsErr n k (l.drop k) = if itemErr x.could.l n = 0 then itemsErr n (k + 1) (l.drop (k + 1)) else some (k, itemErr x.could.l n) := by
 rw [drop_cons h]; rfl
theorem doubtsErr_drop {d : Nat} {l : List Item} {k : Nat} {x : Item} (h : l[k]? = some x) : doubtsErr d k (l.drop k) = if 3 < (if 1 < x.could.l.length then d + 1 else d) then some k else doubtsErr (if 1 < x.could.l.length then d + 1 else d) (k + 1) (l.drop (k + 1)) := by
 rw [drop_cons h]; rfl
theorem r4_Check_ok {s : Int} {g : List Gat} {its : List Item} : P_r4_Check s g its = some (caseErr s g its) := by
 refine Ok.get ?_;unfold P_r4_Check caseErr;refine .andx' (x := P_r1_Check s g) rfl ?_;dsimp only
 by_cases h0 : (bookErr (bk s g)).2.2 = 0
 ·have hf := book_fits h0
  have hall : P_r1_All s g = some (leavesOf (bk s g)) := by unfold P_r1_All; rw [chk_pos hf]
  have hlen := leaves_len hf;rw [if_pos h0, if_pos h0, hall];simp only [andx];generalize hL : leavesOf (bk s g) = lv at hlen
  by_cases h1 : 120 < lv.length
  ·rw [if_pos (show decide ((lv.length : Int) > 120) = true by simp; omega), if_pos h1];simp only;refine .ifp (by omega) (.some rfl)
  ·rw [if_neg (show ¬ decide ((lv.length : Int) > 120) = true by simp; omega), if_neg h1];simp only [h0];refine .ifn (by simp) ?_
   by_cases h2 : 120 < its.length
   ·rw [if_pos h2]; refine .ifp (by omega) (.some rfl)
   ·rw [if_neg h2];refine .ifn (by omega) (Ok.seqx (Ok.count id its.length (fun k _ => itemsErr lv.length 0 its = itemsErr lv.length k (its.drop k)) rfl rfl ?_ ?_))
    ·rintro k i hk hi hI;simp only [id] at hi;subst hi;unfold P_r4_Check_L1;refine .ifp (by omega) (.el (by omega) fun x hx => .andx' (item_ok (by omega)) ?_)
     have hx := get_of hx rfl;rw [itemsErr_drop hx] at hI;refine .ite (fun hc => ?_) (fun hc => ?_)
     ·rw [if_neg hc] at hI;refine .some ?_
      show _ = _;rw [hI]
     ·rw [if_pos (by omega)] at hI;exact .chk (i64_small (by omega)) (.some ⟨rfl, hI⟩)
    ·rintro i hi hI;simp only [id] at hi;subst hi;unfold P_r4_Check_L1;rw [List.drop_length] at hI;refine .ifn (by omega) (.some ?_)
     show Ok _ _;rw [hI];simp only [itemsErr];refine Ok.seqx (Ok.count (σ := Int × Int) Prod.snd its.length (fun k s => ∃ d : Nat, s.1 = d ∧ d ≤ 3 ∧ doubtsErr 0 0 its = doubtsErr d k (its.drop k)) rfl ⟨0, rfl, by omega, rfl⟩ ?_ ?_)
     ·rintro k ⟨dd, i⟩ hk hi ⟨d, hd, hd3, hI⟩;simp only at hi hd;subst hi hd;unfold P_r4_Check_L2;refine .ifp (by omega) (Ok.seqx ?_);refine Ok.andx (P := fun j => ∃ x, its[k]? = some x ∧ j = ((if 1 < x.could.l.length then d + 1 else d : Nat) : Int)) (.el (by omega) fun x hx => ?_) ?_
      ·have hx := get_of hx rfl;refine .ite (fun hc => .chk (i64_small (by omega)) (.some ⟨x, hx, ?_⟩)) (fun hc => .some ⟨x, hx, ?_⟩)
       ·rw [if_pos (by omega)]; rfl
       ·rw [if_neg (by omega)]
      ·rintro j ⟨x, hx, rfl⟩;rw [doubtsErr_drop hx] at hI;generalize (if 1 < x.could.l.length then d + 1 else d) = e at hI;refine .ite (fun hc => ?_) (fun hc => ?_)
       ·rw [if_pos (by omega)] at hI;refine .some ?_
        show _ = _;rw [hI]
       ·rw [if_neg (by omega)] at hI;refine .some ?_
        show Ok _ _;exact .chk (i64_small (by omega)) (.some ⟨rfl, e, rfl, by omega, hI⟩)
     ·rintro ⟨dd, i⟩ hi ⟨d, hd, hd3, hI⟩;simp only at hi hd;subst hi hd;unfold P_r4_Check_L2;rw [List.drop_length] at hI;refine .ifn (by omega) (.some ?_)
      show Ok _ _;rw [hI];exact .some rfl
 ·rw [if_neg h0, if_neg h0];simp only [andx];rw [if_neg (by simp)];simp only;exact .ifp h0 (.some rfl)
end Go.Am
end
section
namespace Go.Am
noncomputable def lvs (s : Int) (g : List Gat) : List Leaf := leavesOf (bk s g)
noncomputable def matesTo (s : Int) (g : List Gat) (n : Nat) : List Int := (List.range n).map fun n => pairNo (bk s g) n
noncomputable def matesOf (s : Int) (g : List Gat) : List Int := matesTo s g (lvs s g).length
theorem matesTo_len (s : Int) (g : List Gat) (n : Nat) : (matesTo s g n).length = n := by simp [matesTo]
theorem matesTo_succ (s : Int) (g : List Gat) (n : Nat) : matesTo s g (n + 1) = matesTo s g n ++ [pairNo (bk s g) n] := by
 unfold matesTo; rw [List.range_succ, List.map_append]; rfl
theorem itemsErr_pos : ∀ (l : List Item) (i : Nat) (n : Int), ∀ x, itemsErr n i l = some x → x.2 ≠ 0 := by
 intro l
 induction l with
 | nil => intro i n x h; cases h
 | cons a l ih =>
  intro i n x h;unfold itemsErr at h;split at h
  ·exact ih _ _ _ h
  ·cases h; assumption
noncomputable def openRes (s : Int) (g : List Gat) (its : List Item) : Sum (Int × Int × Int) (Int × (GS encL) × (List Int) × Int × Int × Int) :=
 if (caseErr s g its).2.2 = 0 then .inr (s, GSo true encL (lvs s g), matesOf s g, 0, 0, 0) else .inl (caseErr s g its)
theorem outside_ok {lo hi : Int} {x : List Int} (h : x.length ≤ 1000000) : P_c_outside lo hi x = some (decide (∃ n ∈ x, n < lo ∨ hi < n)) := by
 unfold P_c_outside;rw [chk_pos (by omega)]
theorem order_ok {x44 : Int} {it : Item} (hl : it.could.l.length ≤ 4) {Q : Ex Unit (Stp Int (Ex Unit (Sum (Int × Int × Int) (Int × (GS encL) × (List Int) × Int × Int × Int)))) → Prop}
  (h1 : BadOrder it.could.l → Q (.rt (.dn (.rt (.inl (2, x44, 2)))))) (h2 : ¬ BadOrder it.could.l → Q (.nx ())) : Ok (iter (P_c_open_L2 x44 it) 0) Q := by
 refine Ok.iter (fun i => 0 ≤ i ∧ ∀ (k : Nat) (a b : Int), (k : Int) + 1 < i → it.could.l[k]? = some a → it.could.l[k + 1]? = some b → a < b) (fun i => it.could.l.length - i.toNat) ⟨by omega, fun k a b h => by omega⟩ ?_;rintro i ⟨h0, hI⟩;unfold P_c_open_L2;refine .ite (fun hc => ?_) (fun hc => ?_)
 ·refine Ok.seqx (.el (by omega) fun b hb => ?_)
  by_cases hi : i > 0
  ·rw [if_pos hi];refine Ok.andx (P := fun c => ∃ a, it.could.l[(i - 1).toNat]? = some a ∧ c = decide (b ≤ a)) (.chk (i64_small (by omega)) (.el (by omega) fun a ha => .some ⟨a, ha, rfl⟩)) ?_;rintro c ⟨a, ha, rfl⟩
   have e : i.toNat = (i - 1).toNat + 1 := by omega
   rw [e] at hb;refine .ite (fun hd => .some ?_) (fun hd => .some ?_)
   ·exact h1 ⟨_, a, b, ha, hb, by simpa using hd⟩
   ·refine .chk (i64_small (by omega)) (.some ⟨⟨by omega, ?_⟩, by simp only; omega⟩);intro k a' b' hk ha' hb'
    by_cases hk' : (k : Int) + 1 < i
    ·exact hI k a' b' hk' ha' hb'
    ·have : k = (i - 1).toNat := by omega
     subst this;rw [ha] at ha'; rw [hb] at hb';cases ha'; cases hb'
     have : ¬ b ≤ a := by simpa using hd
     omega
  ·rw [if_neg hi];simp only [andx];rw [if_neg (by simp)];refine .some ?_
   show Ok _ _;exact .chk (i64_small (by omega)) (.some ⟨⟨by omega, fun k a b hk => by omega⟩, by simp only; omega⟩)
 ·refine .some ?_;refine h2 ?_;rintro ⟨k, a, b, ha, hb, hd⟩
  have := (List.getElem?_eq_some_iff.1 hb).1
  have := hI k a b (by omega) ha hb;omega
theorem mate_ok {s : Int} {g : List Gat} {n : Nat} (h0 : (bookErr (bk s g)).2.2 = 0) (hn : n < (lvs s g).length) : (if ¬ (mateOf (bk s g) n).2 = 0 then (-1 : Int) else (mateOf (bk s g) n).1) = pairNo (bk s g) n := by
 rcases mate_cases h0 hn with h | ⟨h, h'⟩
 ·rw [h]; simp
 ·rw [h, h']; simp
theorem mates_ok {s : Int} {g : List Gat} (h0 : (bookErr (bk s g)).2.2 = 0) (hl : (lvs s g).length ≤ 120) : iter (P_c_open_L4 s g (lvs s g)) (0, []) = some (matesOf s g) := by
 refine Ok.get (Ok.count (σ := Int × List Int) Prod.fst (lvs s g).length (fun k x => x.2 = matesTo s g k) rfl rfl ?_ ?_)
 ·rintro k ⟨i, l⟩ hk hi hl';simp only at hi hl';subst hi hl';unfold P_c_open_L4;refine .ifp (by omega) (Ok.andx (P := fun l => l = matesTo s g (k + 1)) ?_ ?_)
  ·refine .andx' (x := P_q_Mate s g k) (a := mateOf (bk s g) k) rfl ?_
   have hme := mate_ok h0 hk;generalize mateOf (bk s g) (k : Int) = me at hme;obtain ⟨m, e⟩ := me;dsimp only at hme ⊢;refine Ok.andx (P := fun m => m = pairNo (bk s g) k) ?_ ?_
   ·refine .ite (fun hc => .some ?_) (fun hc => .some ?_)
    ·rw [if_pos hc] at hme; exact hme
    ·rw [if_neg hc] at hme; exact hme
   ·rintro m rfl
    have := matesTo_len s g k;exact .chk (by simp; omega) (.some (matesTo_succ s g k).symm)
  ·rintro l rfl;exact .chk (i64_small (by omega)) (.some ⟨rfl, rfl⟩)
 ·rintro ⟨i, l⟩ hi hl';simp only at hi hl';subst hi hl';unfold P_c_open_L4;exact .ifn (by omega) (.some rfl)
theorem open_ok {s : Int} {g : List Gat} {its : List Item} : P_c_open s g its = some (openRes s g its) := by
 refine Ok.get ?_;unfold P_c_open openRes caseErr;refine .andx' (x := P_q_Check s g) rfl ?_;dsimp only
 by_cases h0 : (bookErr (bk s g)).2.2 = 0
 ·rw [if_pos h0];refine .ifn (fun h => h h0) (.andx' (x := P_q_Leaves s g) (a := (leavesOf (bk s g), 0)) (by unfold P_q_Leaves; rw [if_pos h0, h0]) ?_);dsimp only
  have hlen := leaves_len (book_fits h0)
  have hmt := mates_ok (s := s) (g := g) h0;unfold lvs at hmt ⊢;generalize leavesOf (bk s g) = lv at hlen hmt
  by_cases h1 : 120 < lv.length
  ·rw [if_pos h1];exact .ifp (by omega) (.some (by simp))
  ·rw [if_neg h1];refine .ifn (by omega) ?_
   by_cases h2 : 120 < its.length
   ·rw [if_pos h2];exact .ifp (by omega) (.some (by simp))
   ·rw [if_neg h2];refine .ifn (by omega) (Ok.seqx (Ok.count id its.length (fun k _ => itemsErr lv.length 0 its = itemsErr lv.length k (its.drop k)) rfl rfl ?_ ?_))
    ·rintro k i hk hi hI;simp only [id] at hi;subst hi;unfold P_c_open_L1;refine .ifp (by omega) (Ok.seqx (.el (by omega) fun x hx => ?_))
     have hx := get_of hx rfl;rw [itemsErr_drop hx] at hI
     have key : ∀ e : Int, itemErr x.could.l lv.length = e → e ≠ 0 → (Sum.inl (2, (k : Int), e) : Sum (Int × Int × Int) (Int × (GS encL) × (List Int) × Int × Int × Int)) = (if (match itemsErr lv.length 0 its with | some (i, e) => ((2 : Int), (i : Int), e) | none => match doubtsErr 0 0 its with | some i => (3, (i : Int), 3) | none => (0, 0, 0)).2.2 = 0 then .inr (s, GSo true encL lv, matesOf s g, 0, 0, 0) else .inl (match itemsErr lv.length 0 its with | some (i, e) => ((2 : Int), (i : Int), e) | none => match doubtsErr 0 0 its with | some i => (3, (i : Int), 3) | none => (0, 0, 0))) := by
      intro e he h;rw [he, if_neg h] at hI;rw [hI];simp [h]
     unfold itemErr at hI key;refine .ite (fun hc => ?_) (fun hc => ?_)
     ·exact .some (key 3 (by rw [if_pos (by omega)]) (by omega))
     ·rw [if_neg (by omega : ¬ 4 < x.could.l.length)] at hI key;refine .chk (i64_small (by omega)) (.andx' (outside_ok (by omega)) ?_);refine .ite (fun hd => ?_) (fun hd => ?_)
      ·exact .some (key 4 (by rw [if_pos (by simpa using hd)]) (by omega))
      ·have hd' : ¬ ∃ n ∈ x.could.l, n < 0 ∨ (lv.length : Int) - 1 < n := by simpa using hd
       rw [if_neg hd'] at hI key;refine order_ok (by omega) (fun hb => ?_) (fun hb => ?_)
       ·exact key 2 (by rw [if_pos hb]) (by omega)
       ·rw [if_neg hb, if_pos rfl] at hI
        show Ok _ _;exact .chk (i64_small (by omega)) (.some ⟨rfl, hI⟩)
    ·rintro i hi hI;simp only [id] at hi;subst hi;unfold P_c_open_L1;rw [List.drop_length] at hI;refine .ifn (by omega) (.some ?_)
     show Ok _ _;rw [hI];simp only [itemsErr];refine Ok.seqx (Ok.count (σ := Int × Int) Prod.snd its.length (fun k s => ∃ d : Nat, s.1 = d ∧ d ≤ 3 ∧ doubtsErr 0 0 its = doubtsErr d k (its.drop k)) rfl ⟨0, rfl, by omega, rfl⟩ ?_ ?_)
     ·rintro k ⟨dd, i⟩ hk hi ⟨d, hd, hd3, hI⟩;simp only at hi hd;subst hi hd;unfold P_c_open_L3;refine .ifp (by omega) (Ok.seqx (.el (by omega) fun x hx => ?_))
      have hx := get_of hx rfl;rw [doubtsErr_drop hx] at hI;refine Ok.andx (P := fun j => j = ((if 1 < x.could.l.length then d + 1 else d : Nat) : Int)) ?_ ?_
      ·refine .ite (fun hc => .chk (i64_small (by omega)) (.some ?_)) (fun hc => .some ?_)
       ·rw [if_pos (by omega)]; rfl
       ·rw [if_neg (by omega)]
      ·rintro j rfl;generalize (if 1 < x.could.l.length then d + 1 else d) = e at hI;refine .ite (fun hc => ?_) (fun hc => ?_)
       ·rw [if_pos (by omega)] at hI;refine .some ?_
        show _ = _;rw [hI];simp
       ·rw [if_neg (by omega)] at hI;refine .some ?_
        show Ok _ _;exact .chk (i64_small (by omega)) (.some ⟨rfl, e, rfl, by omega, hI⟩)
     ·rintro ⟨dd, i⟩ hi ⟨d, hd, hd3, hI⟩;simp only at hi hd;subst hi hd;unfold P_c_open_L3;rw [List.drop_length] at hI;refine .ifn (by omega) (.some ?_)
      show Ok _ _;rw [hI];refine .andx' (hmt (by omega)) (.some ?_);simp [doubtsErr]
 ·rw [if_neg h0];exact .ifp h0 (.some (by rw [if_neg h0]))
end Go.Am
end
section
namespace Go.Am
theorem doubts_le : ∀ (l : List Item) (d i : Nat), d ≤ 3 → doubtsErr d i l = none → d + l.countP (fun x => decide (1 < x.could.l.length)) ≤ 3 := by
 intro l
 induction l with
 | nil => intro d i hd _; simpa using hd
 | cons x l ih =>
  intro d i hd h;unfold doubtsErr at h;rw [List.countP_cons]
  by_cases hx : 1 < x.could.l.length
  ·simp only [hx, if_true, decide_true] at h ⊢;split at h
   ·cases h
   ·have := ih _ _ (by omega) h;omega
  ·simp only [hx, if_false, decide_false] at h ⊢;split at h
   ·cases h
   ·have := ih _ _ (by omega) h
    simpa using this
theorem items_ok {n : Int} : ∀ (l : List Item) (i : Nat), itemsErr n i l = none → ∀ x ∈ l, itemErr x.could.l n = 0 := by
 intro l
 induction l with
 | nil => intro i _ x hx; simp at hx
 | cons a l ih =>
  intro i h x hx;unfold itemsErr at h;split at h
  ·rename_i h0
   rcases List.mem_cons.1 hx with rfl | hx
   ·exact h0
   ·exact ih _ h x hx
  ·cases h
theorem item_facts {l : List Int} {n : Int} (h : itemErr l n = 0) : l.length ≤ 4 ∧ (∀ x ∈ l, 0 ≤ x ∧ x ≤ n - 1) ∧ ¬ BadOrder l := by
 unfold itemErr at h;split at h
 ·omega
 ·split at h
  ·omega
  ·rename_i h1 h2
   split at h
   ·omega
   ·rename_i h3
    refine ⟨by omega, fun x hx => ?_, h3⟩
    have : ¬ (x < 0 ∨ n - 1 < x) := fun k => h2 ⟨x, hx, k⟩
    omega
def wid : List Item → Nat
 | [] => 1
 | x :: l => (chs x).length * wid l
theorem comps_len : ∀ (l : List Item) (p : List Int), (comps p l).length = wid l := by
 intro l
 induction l with
 | nil => intro p; rfl
 | cons x l ih =>
  intro p;unfold comps wid;rw [List.length_flatMap]
  have : ((chs x).map fun c => (comps (p ++ [c]) l).length) = (chs x).map fun _ => wid l := by simp [ih]
  rw [this];simp [List.map_const', List.sum_replicate_nat]
theorem chs_len (x : Item) (h : x.could.l.length ≤ 4) : 1 ≤ (chs x).length ∧ (chs x).length ≤ 4 ∧ (1 < (chs x).length ↔ 1 < x.could.l.length) := by
 unfold chs
 by_cases h0 : x.could.l = []
 ·rw [if_pos h0]; simp [h0]
 ·rw [if_neg h0]
  have : x.could.l.length ≠ 0 := fun e => h0 (List.eq_nil_of_length_eq_zero e)
  omega
theorem wid_le : ∀ (l : List Item), (∀ x ∈ l, x.could.l.length ≤ 4) → 1 ≤ wid l ∧ wid l ≤ 4 ^ l.countP (fun x => decide (1 < x.could.l.length)) := by
 intro l
 induction l with
 | nil => intro _; simp [wid]
 | cons x l ih =>
  intro h
  have hx := chs_len x (h x (by simp));obtain ⟨h1, h2⟩ := ih fun y hy => h y (by simp [hy])
  unfold wid;rw [List.countP_cons];refine ⟨Nat.mul_pos hx.1 h1, ?_⟩
  by_cases hc : 1 < x.could.l.length
  ·simp only [hc, decide_true, if_true, Nat.pow_succ];rw [Nat.mul_comm];exact Nat.mul_le_mul h2 hx.2.1
  ·have : (chs x).length = 1 := by have := hx.2.2; omega
   simp only [hc, decide_false, this]
   simpa using h2
def lev : List (List Int) → List Item → List (List Int)
 | out, [] => out
 | out, x :: l => lev (out.flatMap fun o => (chs x).map fun c => o ++ [c]) l
theorem lev_comps : ∀ (l : List Item) (out : List (List Int)), lev out l = out.flatMap fun o => comps o l := by
 intro l
 induction l with
 | nil => intro out; simp [lev, comps]
 | cons x l ih =>
  intro out;unfold lev;rw [ih, List.flatMap_assoc]
  congr 1
  funext o
  rw [List.flatMap_map];rfl
theorem lev_snoc : ∀ (l : List Item) (out : List (List Int)) (x : Item), lev out (l ++ [x]) = (lev out l).flatMap fun o => (chs x).map fun c => o ++ [c] := by
 intro l
 induction l with
 | nil => intro out x; rfl
 | cons y l ih => intro out x; exact ih _ x
theorem truths_lev (l : List Item) : lev [[]] l = truthsOf l := by rw [lev_comps]; simp [truthsOf]
theorem comps_each : ∀ (l : List Item) (p t : List Int), t ∈ comps p l → t.length = p.length + l.length := by
 intro l
 induction l with
 | nil => intro p t h; simp [comps] at h; simp [h]
 | cons x l ih =>
  intro p t h;unfold comps at h;obtain ⟨c, _, hc⟩ := List.mem_flatMap.1 h
  have := ih _ _ hc;simp at this ⊢;omega
theorem lev_each {l : List Item} {t : List Int} (h : t ∈ lev [[]] l) : t.length = l.length := by
 rw [truths_lev] at h
 simpa using comps_each l [] t h
theorem one_row {could : List Int} {o : List Int} {body : Int × List (List Int) → Option (Stp (Int × List (List Int)) (List (List Int)))} (hb : ∀ (n : Nat) (next : List (List Int)), next.length ≤ 1000000 → (∀ a, could[n]? = some a → body (n, next) = some (.ag ((n : Int) + 1, next ++ [o ++ [a]]))) ∧ (could[n]? = none → body (n, next) = some (.dn next)))
  {next : List (List Int)} (hn : next.length + could.length ≤ 1000000) : iter body (0, next) = some (next ++ could.map fun c => o ++ [c]) := by
 refine Ok.get (Ok.count (σ := Int × List (List Int)) Prod.fst could.length (fun k s => s.2 = next ++ (could.take k).map fun c => o ++ [c]) rfl (by simp) ?_ ?_)
 ·rintro k ⟨i, nx⟩ hk hi hx;simp only at hi hx;subst hi hx
  have e := List.getElem?_eq_getElem hk;refine .eq ((hb k _ (by simp; omega)).1 _ e) ⟨rfl, ?_⟩
  show _ = next ++ (could.take (k + 1)).map fun c => o ++ [c]
  rw [take_snoc e, List.map_append, ← List.append_assoc];rfl
 ·rintro ⟨i, nx⟩ hi hx;simp only at hi hx;subst hi hx;refine .eq ((hb could.length _ (by simp; omega)).2 (List.getElem?_eq_none (Nat.le_refl _))) ?_
  show _ = _;rw [List.take_length]
theorem all_rows {could : List Int} {out : List (List Int)} {body : Int × List (List Int) → Option (Stp (Int × List (List Int)) (List (List Int)))} (hb : ∀ (k : Nat) (next : List (List Int)), next.length + could.length ≤ 1000000 → (∀ o, out[k]? = some o → body (k, next) = some (.ag ((k : Int) + 1, next ++ could.map fun c => o ++ [c]))) ∧ (out[k]? = none → body (k, next) = some (.dn next)))
  (hn : (out.length + 1) * could.length ≤ 1000000) : iter body (0, []) = some (out.flatMap fun o => could.map fun c => o ++ [c]) := by
 have hlen : ∀ k, k ≤ out.length → ((out.take k).flatMap fun o => could.map fun c => o ++ [c]).length = k * could.length := by
  intro k hk;rw [List.length_flatMap]
  have : ((out.take k).map fun o => (could.map fun c => o ++ [c]).length) = (out.take k).map fun _ => could.length := by simp
  rw [this];simp [List.map_const', List.sum_replicate_nat, Nat.min_eq_left hk]
 refine Ok.get (Ok.count (σ := Int × List (List Int)) Prod.fst out.length (fun k s => s.2 = (out.take k).flatMap fun o => could.map fun c => o ++ [c]) rfl (by simp) ?_ ?_)
 ·rintro k ⟨i, nx⟩ hk hi hx;simp only at hi hx;subst hi hx
  have e := List.getElem?_eq_getElem hk
  have hb1 : k * could.length + could.length ≤ (out.length + 1) * could.length := by
   rw [← Nat.succ_mul]; exact Nat.mul_le_mul_right _ (by omega)
  refine .eq ((hb k _ (by rw [hlen k (by omega)]; omega)).1 _ e) ⟨rfl, ?_⟩
  show _ = (out.take (k + 1)).flatMap _;rw [take_snoc e, List.flatMap_append];simp
 ·rintro ⟨i, nx⟩ hi hx;simp only at hi hx;subst hi hx
  have hb1 : out.length * could.length + could.length = (out.length + 1) * could.length := (Nat.succ_mul _ _).symm;refine .eq ((hb out.length _ (by rw [hlen _ (Nat.le_refl _)]; omega)).2 (List.getElem?_eq_none (Nat.le_refl _))) ?_
  show _ = _;rw [List.take_length]
end Go.Am
end
section
namespace Go.Am
set_option linter.unusedVariables false
structure GoodCase (s : Int) (g : List Gat) (its : List Item) : Prop where
 b0 : (bookErr (bk s g)).2.2 = 0
 nl : (lvs s g).length ≤ 120
 il : its.length ≤ 120
 few : ∀ x ∈ its, x.could.l.length ≤ 4
 rng : ∀ x ∈ its, ∀ n ∈ x.could.l, 0 ≤ n ∧ n ≤ ((lvs s g).length : Int) - 1
 dbt : its.countP (fun x => decide (1 < x.could.l.length)) ≤ 3
theorem case_good {s : Int} {g : List Gat} {its : List Item} (h : (caseErr s g its).2.2 = 0) : GoodCase s g its := by
 unfold caseErr at h
 by_cases hb : (bookErr (bk s g)).2.2 = 0
 ·rw [if_pos hb] at h
  by_cases h1 : 120 < (leavesOf (bk s g)).length
  ·rw [if_pos h1] at h; simp at h
  ·rw [if_neg h1] at h
   by_cases h2 : 120 < its.length
   ·rw [if_pos h2] at h; simp at h
   ·rw [if_neg h2] at h;split at h
    ·rename_i i e he
     exact absurd h (itemsErr_pos _ _ _ _ he)
    ·rename_i he
     split at h
     ·simp at h
     ·rename_i hd
      have hi := fun x hx => item_facts (items_ok _ _ he x hx)
      exact ⟨hb, by unfold lvs; omega, by omega, fun x hx => (hi x hx).1, fun x hx => (hi x hx).2.1, by simpa using doubts_le _ _ _ (by omega) hd⟩
 ·rw [if_neg hb] at h; exact absurd h hb
theorem GoodCase.wid {s : Int} {g : List Gat} {its : List Item} (h : GoodCase s g its) : Go.Am.wid its ≤ 64 :=
 Nat.le_trans (wid_le _ h.few).2 (Nat.le_trans (Nat.pow_le_pow_right (by omega) h.dbt) (by decide))
theorem GoodCase.take {s : Int} {g : List Gat} {its : List Item} (h : GoodCase s g its) (k : Nat) : GoodCase s g (its.take k) :=
  ⟨h.b0, h.nl, Nat.le_trans (by rw [List.length_take]; omega) h.il, fun x hx => h.few x (List.mem_of_mem_take hx), fun x hx => h.rng x (List.mem_of_mem_take hx),
    Nat.le_trans ((List.take_sublist k its).countP_le) h.dbt⟩
theorem lev_len (l : List Item) : (lev [[]] l).length = Go.Am.wid l := by rw [truths_lev]; exact comps_len l []
theorem el_eq {α β : Type} {l : List α} {k : Nat} {a : α} {c : α → Option β} (h : l[k]? = some a) : el l (k : Int) c = c a := by
 unfold el; rw [if_pos (by omega)]; simp only [Int.toNat_natCast, h]
theorem row3 {l9 : List (List Int)} {k : Nat} {o : List Int} (ho : l9[k]? = some o) (hl : o.length ≤ 1000000) (n : Nat) (next : List (List Int)) (hn : next.length ≤ 1000000) :
  (∀ a, [(-1 : Int)][n]? = some a → P_r4_All_L3 l9 k (n, next) = some (.ag ((n : Int) + 1, next ++ [o ++ [a]]))) ∧ ([(-1 : Int)][n]? = none → P_r4_All_L3 l9 k (n, next) = some (.dn next)) := by
 constructor
 ·intro a ha
  have hlt := (List.getElem?_eq_some_iff.1 ha).1
  have h1 : n < 1 := hlt;unfold P_r4_All_L3;dsimp only;rw [if_pos (by omega), el_eq ho, el_eq ha, chk_pos (by simp; omega), chk_pos (by simp; omega), chk_pos (by simp; omega), chk_pos (i64_small (by omega))];rfl
 ·intro hnone
  have := List.getElem?_eq_none_iff.1 hnone;unfold P_r4_All_L3;dsimp only;rw [if_neg (by omega)]
theorem row5 {l9 : List (List Int)} {it : Item} {k : Nat} {o : List Int} (ho : l9[k]? = some o) (hl : o.length ≤ 1000000) (hc : it.could.l.length ≤ 4) (n : Nat) (next : List (List Int)) (hn : next.length ≤ 1000000) :
  (∀ a, it.could.l[n]? = some a → P_r4_All_L5 l9 it k (n, next) = some (.ag ((n : Int) + 1, next ++ [o ++ [a]]))) ∧ (it.could.l[n]? = none → P_r4_All_L5 l9 it k (n, next) = some (.dn next)) := by
 constructor
 ·intro a ha
  have hlt := (List.getElem?_eq_some_iff.1 ha).1;unfold P_r4_All_L5;dsimp only;rw [if_pos (by omega), el_eq ho, el_eq ha, chk_pos (by simp; omega), chk_pos (by simp; omega), chk_pos (by simp; omega), chk_pos (i64_small (by omega))];rfl
 ·intro hnone
  have := List.getElem?_eq_none_iff.1 hnone;unfold P_r4_All_L5;dsimp only;rw [if_neg (by omega)]
theorem lvl2 {l9 : List (List Int)} (hl : l9.length ≤ 64) (ho : ∀ o ∈ l9, o.length ≤ 1000000) : iter (P_r4_All_L2 l9) (0, []) = some (l9.flatMap fun o => [(-1 : Int)].map fun c => o ++ [c]) := by
 refine all_rows (fun k next hn => ⟨fun o hk => ?_, fun hk => ?_⟩) (by simp; omega)
 ·have hlt := (List.getElem?_eq_some_iff.1 hk).1;unfold P_r4_All_L2;dsimp only;rw [if_pos (by omega), one_row (row3 hk (ho o (List.mem_of_getElem? hk))) hn];simp only [andx];rw [chk_pos (i64_small (by omega))]
 ·have := List.getElem?_eq_none_iff.1 hk;unfold P_r4_All_L2;dsimp only;rw [if_neg (by omega)]
theorem lvl4 {l9 : List (List Int)} {it : Item} (hl : l9.length ≤ 64) (ho : ∀ o ∈ l9, o.length ≤ 1000000) (hc : it.could.l.length ≤ 4) : iter (P_r4_All_L4 l9 it) (0, []) = some (l9.flatMap fun o => it.could.l.map fun c => o ++ [c]) := by
 have h65 : (l9.length + 1) * it.could.l.length ≤ 1000000 := Nat.le_trans (Nat.mul_le_mul (show l9.length + 1 ≤ 65 by omega) hc) (by decide);refine all_rows (fun k next hn => ⟨fun o hk => ?_, fun hk => ?_⟩) h65
 ·have hlt := (List.getElem?_eq_some_iff.1 hk).1;unfold P_r4_All_L4;dsimp only;rw [if_pos (by omega), one_row (row5 hk (ho o (List.mem_of_getElem? hk)) hc) hn];simp only [andx];rw [chk_pos (i64_small (by omega))]
 ·have := List.getElem?_eq_none_iff.1 hk;unfold P_r4_All_L4;dsimp only;rw [if_neg (by omega)]
theorem All_ok {s : Int} {g : List Gat} {its : List Item} (h : GoodCase s g its) : ∃ z, P_r4_All s g its = some (truthsOf its, z) := by
 have : Ok (iter (P_r4_All_L1 its) (0, [([] : List Int)], false)) fun r => r.1 = truthsOf its := by
  refine Ok.count (σ := Int × List (List Int) × Bool) Prod.fst its.length (fun k x => x.2.1 = lev [[]] (its.take k)) rfl (by simp [lev]) ?_ ?_
  ·rintro k ⟨i, l9, z⟩ hk hi hx;simp only at hi hx;subst hi hx
   have e := List.getElem?_eq_getElem hk
   have hm : its[k] ∈ its := List.getElem_mem hk
   have hL : (lev [[]] (its.take k)).length ≤ 64 := by rw [lev_len]; exact (h.take k).wid
   have hO : ∀ o ∈ lev [[]] (its.take k), o.length ≤ 1000000 := by
    intro o ho
    have h1 := lev_each ho
    have h2 : (its.take k).length ≤ 120 := (h.take k).il;omega
   unfold P_r4_All_L1;refine .ifp (by omega) ?_;rw [el_eq e]
   have hs : lev [[]] (its.take (k + 1)) = (lev [[]] (its.take k)).flatMap fun o => (chs its[k]).map fun c => o ++ [c] := by rw [take_snoc e, lev_snoc]
   refine Ok.andx' (a := lev [[]] (its.take (k + 1))) ?_ ?_
   ·by_cases hc : its[k].could.l = []
    ·rw [if_pos (by simp [hc]), lvl2 hL hO, hs];simp [andx, chs, hc]
    ·have : its[k].could.l.length ≠ 0 := fun e => hc (List.eq_nil_of_length_eq_zero e)
     rw [if_neg (by omega), lvl4 hL hO (h.few _ hm), hs];simp [andx, chs, hc]
   ·exact .chk (i64_small (by have := h.il; omega)) (.some ⟨rfl, rfl⟩)
  ·rintro ⟨i, l9, z⟩ hi hx;simp only at hi hx;subst hi hx;unfold P_r4_All_L1;refine .ifn (by omega) (.some ?_)
   show lev [[]] (its.take its.length) = _;rw [List.take_length, truths_lev]
 obtain ⟨⟨l, z⟩, h1, h2⟩ := this;refine ⟨z, ?_⟩;unfold P_r4_All;rw [h1];simp only [andx];rw [← h2]
theorem Mates_ok {s : Int} {g : List Gat} (h0 : (bookErr (bk s g)).2.2 = 0) (hl : (lvs s g).length ≤ 120) : P_r4_Mates s g = some (matesOf s g) := by
 have hf := book_fits h0;unfold P_r4_Mates P_r1_All;rw [chk_pos hf]
 show andx _ _ = _;simp only [andx]
 have : iter (P_r4_Mates_L1 s g (leavesOf (bk s g))) (0, []) = some (matesOf s g) := by
  refine Ok.get (Ok.count (σ := Int × List Int) Prod.fst (lvs s g).length (fun k x => x.2 = matesTo s g k) rfl rfl ?_ ?_)
  ·rintro k ⟨i, l⟩ hk hi hx;simp only at hi hx;subst hi hx;unfold P_r4_Mates_L1;refine .ifp (by unfold lvs at hk; omega) ?_;unfold P_r1_Pair;rw [chk_pos ⟨hf, by omega, by unfold lvs at hk; simpa using hk⟩];simp only [andx, Int.toNat_natCast];refine .chk (by rw [matesTo_len]; simp; omega) (.chk (i64_small (by omega)) (.some ⟨rfl, (matesTo_succ s g k).symm⟩))
  ·rintro ⟨i, l⟩ hi hx;simp only at hi hx;subst hi hx;unfold P_r4_Mates_L1;exact .ifn (by unfold lvs; omega) (.some rfl)
 rw [this]
end Go.Am
end
section
namespace Go.Am
set_option linter.unusedVariables false
structure GoodBook (s : Int) (g : List Gat) : Prop where
 b0 : (bookErr (bk s g)).2.2 = 0
 nl : (lvs s g).length ≤ 120
theorem GoodCase.book {s : Int} {g : List Gat} {its : List Item} (h : GoodCase s g its) : GoodBook s g := ⟨h.b0, h.nl⟩
theorem All1_ok {s : Int} {g : List Gat} (h : GoodBook s g) : P_r1_All s g = some (lvs s g) := by unfold P_r1_All; rw [chk_pos (book_fits h.b0)]; rfl
theorem has_ok {l : List Int} {n : Int} (h : l.length ≤ 1000000) : P_r1_Has l n = some (decide (n ∈ l)) := by unfold P_r1_Has; rw [chk_pos (by omega)]
theorem Gone_ok {s : Int} {g : List Gat} {t : List Int} (h : GoodBook s g) (ht : t.length ≤ 1000000) : P_r4_Gone s g t = some (lostOf (lvs s g).length t) := by
 refine Ok.get ?_;unfold P_r4_Gone;refine .andx' (All1_ok h) ?_
 have hl := h.nl;refine Ok.andx (P := fun l => l = lostOf (lvs s g).length t) (Ok.count Prod.fst (lvs s g).length (fun k s => s.2 = lostOf k t) rfl rfl ?_ ?_) fun _ h => .some h
 ·rintro k ⟨x, l⟩ hk hx hl';simp only at hx hl';subst hx hl'
  have hlen := lostOf_len k t;unfold P_r4_Gone_L1;refine .ifp (by omega) (Ok.andx (P := fun l => l = lostOf (k + 1) t) ?_ ?_)
  ·refine .andx' (has_ok ht) ?_;refine .ite (fun hc => ?_) (fun hc => ?_)
   ·refine .some ?_
    show _ = _;rw [lostOf_succ, if_neg (fun h => h (of_decide_eq_true hc))]
   ·refine .chk (by simp; omega) (.some ?_)
    show _ = _;rw [lostOf_succ, if_pos (fun h => hc (decide_eq_true h))]
  ·rintro l' rfl;exact .chk (i64_small (by omega)) (.some ⟨rfl, rfl⟩)
 ·rintro ⟨x, l⟩ hx hl';simp only at hx hl';unfold P_r4_Gone_L1;exact .ifn (by omega) (.some hl')
theorem mates_len (s : Int) (g : List Gat) : (matesOf s g).length = (lvs s g).length := matesTo_len _ _ _
theorem Pieces_ok {s : Int} {g : List Gat} {gone : List Int} (h : GoodBook s g) (hr : ∀ x ∈ gone, 0 ≤ x ∧ x < (lvs s g).length) (hl : gone.length ≤ 1000000) : P_r4_Pieces s g gone = some (piecesOf (matesOf s g) gone) := by
 refine Ok.get ?_;unfold P_r4_Pieces;refine .andx' (Mates_ok h.b0 h.nl) ?_
 have hml := mates_len s g;generalize matesOf s g = mt at *;refine Ok.andx (P := fun l => l = piecesOf mt gone) (Ok.count (fun s => s.2) gone.length (fun k (s : Int × Int) => s.1 = (((gone.take k).countP (isPiece mt gone) : Nat) : Int)) rfl rfl ?_ ?_) fun _ h => .some h
 ·rintro k ⟨n, x⟩ hk hx hn;simp only at hx hn;subst hx hn
  have hcl := List.countP_le_length (p := isPiece mt gone) (l := gone.take k)
  have htl : (gone.take k).length ≤ 1000000 := by rw [List.length_take]; omega
  unfold P_r4_Pieces_L1;refine .ifp (by omega) (Ok.andx (P := fun l => l = (((gone.take (k + 1)).countP (isPiece mt gone) : Nat) : Int)) ?_ ?_)
  ·refine .el (by omega) fun a ha => ?_
   have ha := get_of ha rfl
   have har := hr a (List.mem_of_getElem? ha);refine .el (by rw [hml]; exact har) fun b hb => ?_
   have hmf : mateF mt a = b := by unfold mateF; rw [hb]
   have hcp : (gone.take (k + 1)).countP (isPiece mt gone) = (gone.take k).countP (isPiece mt gone) + (if isPiece mt gone a = true then 1 else 0) := by
    rw [take_snoc ha, List.countP_append, List.countP_singleton]
   refine Ok.andx (P := fun c : Bool => c = true ↔ isPiece mt gone a = true) ?_ ?_
   ·unfold isPiece;rw [hmf, decide_eq_true_iff];refine .ite (fun h => .some ?_) (fun h => ?_)
    ·simp only [true_iff]; exact .inl h
    ·refine .el (by omega) fun a' ha' => ?_
     have ha' := get_of ha' rfl;rw [ha] at ha';cases ha';refine .ite (fun h2 => .some ?_) (fun h2 => ?_)
     ·simp only [true_iff]; exact .inr (.inl h2)
     ·refine .andx' (has_ok hl) (.some ?_);simp only [Bool.not_eq_true', decide_eq_false_iff_not];exact ⟨fun h3 => .inr (.inr h3), fun h3 => h3.elim (fun h3 => absurd h3 h) fun h3 => h3.elim (fun h3 => absurd h3 h2) fun h3 => h3⟩
   ·rintro c hcc;refine .ite (fun h => ?_) (fun h => ?_)
    ·refine .chk (i64_small (by omega)) (.some ?_);rw [hcp, if_pos (hcc.1 h)];rfl
    ·refine .some ?_;rw [hcp, if_neg (fun e => h (hcc.2 e))];rfl
  ·rintro c rfl;exact .chk (i64_small (by omega)) (.some ⟨rfl, rfl⟩)
 ·rintro ⟨n, x⟩ hx hn;simp only at hx hn;unfold P_r4_Pieces_L1;refine .ifn (by omega) (.some ?_)
  show n = _;rw [hn, List.take_length]; rfl
def plainOf (t : List Int) : List Int := idxTo (isPlain t) t t.length
theorem Plain_ok {t : List Int} (ht : t.length ≤ 1000000) : P_r4_Plain t = some (plainOf t) := by
 refine Ok.get ?_;unfold P_r4_Plain;refine Ok.andx (P := fun l => l = plainOf t) (Ok.count Prod.fst t.length (fun k s => s.2 = idxTo (isPlain t) t k) rfl rfl ?_ ?_) fun _ h => .some h
 ·rintro k ⟨x, l⟩ hk hx hl';simp only at hx hl';subst hx hl'
  have hlen := idxTo_len (isPlain t) t k;unfold P_r4_Plain_L1;refine .ifp (by omega) (Ok.andx (P := fun l => l = idxTo (isPlain t) t (k + 1)) ?_ ?_)
  ·have hn : t[k]? = some t[k] := List.getElem?_eq_getElem hk;generalize t[k] = n at hn;rw [idxTo_succ hn];refine Ok.andx (P := fun b : Bool => b = isPlain t k n) ?_ ?_
   ·refine .el (by omega) fun a ha => ?_
    have ha := get_of ha rfl;rw [hn] at ha;cases ha;refine .ite (fun h0 => ?_) (fun h0 => ?_)
    ·refine .chk (by omega) (.el (by omega) fun a ha => ?_)
     have ha := get_of ha rfl;rw [hn] at ha;cases ha
     have e : (List.take ((k : Int) - 0).toNat (List.drop (0 : Int).toNat t)) = t.take k := by rw [show ((k : Int) - 0).toNat = k by omega]; rfl
     rw [e];refine .andx' (has_ok (by rw [List.length_take]; omega)) (.some ?_)
     show (!decide (n ∈ t.take k)) = decide (0 ≤ n ∧ n ∉ t.take k)
     by_cases hm : n ∈ t.take k <;> simp [hm]
     omega
    ·exact .some (decide_eq_false (fun h => h0 h.1)).symm
   ·rintro b rfl;refine .ite (fun h => ?_) (fun h => ?_)
    ·exact .chk (by simp; omega) (.some (by simp only [h, if_true]))
    ·exact .some (by simp only [h]; rfl)
  ·rintro l' rfl;exact .chk (i64_small (by omega)) (.some ⟨rfl, rfl⟩)
 ·rintro ⟨x, l⟩ hx hl';simp only at hx hl';unfold P_r4_Plain_L1;exact .ifn (by omega) (.some hl')
theorem mem_idxTo {p : Nat → Int → Bool} {t : List Int} {i : Nat} {n : Int} (hn : t[i]? = some n) : ∀ k, (i : Int) ∈ idxTo p t k ↔ i < k ∧ p i n = true := by
 intro k
 induction k with
 | zero => simp [idxTo]
 | succ k ih =>
  rw [idxTo, List.mem_append, ih]
  constructor
  ·rintro (⟨h1, h2⟩ | h)
   ·exact ⟨by omega, h2⟩
   ·split at h
    ·rename_i m hm
     split at h
     ·rename_i hp
      rw [List.mem_singleton] at h
      have : i = k := by omega
      subst this;rw [hn] at hm;cases hm;exact ⟨by omega, hp⟩
     ·cases h
    ·cases h
  ·rintro ⟨h1, h2⟩
   by_cases e : i = k
   ·subst e;rw [hn];simp only [h2, if_true];exact .inr (List.mem_singleton_self _)
   ·exact .inl ⟨by omega, h2⟩
theorem idxTo_nat {p : Nat → Int → Bool} {t : List Int} : ∀ k, ∀ x ∈ idxTo p t k, ∃ i : Nat, x = i ∧ i < k ∧ ∃ n, t[i]? = some n ∧ p i n = true := by
 intro k
 induction k with
 | zero => intro x h; cases h
 | succ k ih =>
  intro x h;rw [idxTo, List.mem_append] at h
  rcases h with h | h
  ·obtain ⟨i, h1, h2, h3⟩ := ih x h;exact ⟨i, h1, by omega, h3⟩
  ·split at h
   ·rename_i m hm
    split at h
    ·rename_i hp
     rw [List.mem_singleton] at h;exact ⟨k, h, by omega, m, hm, hp⟩
    ·cases h
   ·cases h
def tAt (t : List Int) (i : Int) : Int := match t[i.toNat]? with | some n => n | none => 0
def runsL (g : Int → Int) (t : List Int) (l : List Int) : List S_copy_run := l.foldl (fun l i => rnStep g l i (tAt t i)) []
theorem runsTo_L (g : Int → Int) (t : List Int) : ∀ k, runsTo g t k = runsL g t (idxTo (isPlain t) t k) := by
 intro k
 induction k with
 | zero => rfl
 | succ k ih =>
  rw [runsTo, idxTo];cases h : t[k]? with
  | none => simp only [List.append_nil]; exact ih
  | some n =>
   simp only;split
   ·rw [runsL, List.foldl_append, List.foldl_cons, List.foldl_nil]
    have e : tAt t k = n := by unfold tAt; rw [Int.toNat_natCast, h]
    rw [e, ih];rfl
   ·rw [List.append_nil]; exact ih
theorem rnStep_pos (g : Int → Int) (l : List S_copy_run) (i n : Int) : 1 ≤ (rnStep g l i n).length := by
 unfold rnStep;split
 ·rename_i r hr
  have := (List.getElem?_eq_some_iff.1 hr).1;split <;> simp <;> omega
 ·simp
theorem runsL_pos {g : Int → Int} {t : List Int} {l : List Int} (h : l ≠ []) : 1 ≤ (runsL g t l).length := by
 obtain ⟨a, b, rfl⟩ : ∃ a b, l = a ++ [b] := ⟨l.dropLast, l.getLast h, (List.dropLast_concat_getLast h).symm⟩;rw [runsL, List.foldl_append];exact rnStep_pos _ _ _ _
theorem runsL_ok {g : Int → Int} {t : List Int} {N : Nat} : ∀ (l : List Int), (∀ i ∈ l, 0 ≤ tAt t i ∧ tAt t i < N) → (∀ r ∈ runsL g t l, RunOk N r) ∧ (runsL g t l).length ≤ l.length := by
 intro l
 suffices h : ∀ (l : List Int) (acc : List S_copy_run), (∀ i ∈ l, 0 ≤ tAt t i ∧ tAt t i < N) → (∀ r ∈ acc, RunOk N r) → (∀ r ∈ l.foldl (fun l i => rnStep g l i (tAt t i)) acc, RunOk N r) ∧ (l.foldl (fun l i => rnStep g l i (tAt t i)) acc).length ≤ acc.length + l.length by
  intro hl
  have := h l [] hl (by simp);exact ⟨this.1, Nat.le_trans this.2 (by simp)⟩
 intro l
 induction l with
 | nil => intro acc _ h; exact ⟨h, Nat.le_refl _⟩
 | cons i l ih =>
  intro acc h1 h2
  have h3 := ih (rnStep g acc i (tAt t i)) (fun j hj => h1 j (List.mem_cons_of_mem _ hj)) (rnStep_ok h2 (h1 i List.mem_cons_self));refine ⟨h3.1, ?_⟩
  have := rnStep_len (g := g) (l := acc) (i := i) (n := tAt t i);rw [List.foldl_cons, List.length_cons];omega
def toC (r : S_duodecimoref04_Run) : S_copy_run := ⟨r.item, r.first, r.last⟩
theorem Runs_ok {s : Int} {g : List Gat} {t : List Int} (h : GoodBook s g) (ht : t.length ≤ 120) (hin : TruthIn (lvs s g).length t) :
    ∃ rs, P_r4_Runs s g t = some rs ∧ rs.map toC = runsOf (gathOf (lvs s g)) t := by
  suffices k : Ok (P_r4_Runs s g t) (fun rs => rs.map toC = runsOf (gathOf (lvs s g)) t) from k
  unfold P_r4_Runs
  refine .andx' (All1_ok h) (.andx' (Plain_ok (by omega)) ?_)
  generalize hlv : lvs s g = lv at *
  have hpl : (plainOf t).length ≤ t.length := idxTo_len _ _ _
  have hpn : ∀ i ∈ plainOf t, ∃ j : Nat, i = j ∧ j < t.length ∧ ∃ n, t[j]? = some n ∧ isPlain t j n = true := idxTo_nat t.length
  have hat : ∀ i ∈ plainOf t, 0 ≤ tAt t i ∧ tAt t i < lv.length := fun i hi => by
    obtain ⟨j, rfl, hj, n, hn, hp⟩ := hpn i hi
    have e : tAt t j = n := by unfold tAt; rw [Int.toNat_natCast, hn]
    rw [e]
    exact ⟨(of_decide_eq_true hp).1, hin n (List.mem_of_getElem? hn)⟩
  unfold runsOf
  rw [runsTo_L]
  show Ok _ (fun rs : List S_duodecimoref04_Run => rs.map toC = runsL (gathOf lv) t (plainOf t))
  refine Ok.andx (P := fun rs : List S_duodecimoref04_Run => rs.map toC = runsL (gathOf lv) t (plainOf t)) (Ok.count Prod.fst (plainOf t).length (fun k s => s.2.map toC = runsL (gathOf lv) t ((plainOf t).take k)) rfl rfl ?_ ?_) fun _ h => .some h
  · rintro k ⟨x, out⟩ hk hx ho
    simp only at hx ho
    subst hx
    have hi : (plainOf t)[k]? = some (plainOf t)[k] := List.getElem?_eq_getElem hk
    generalize (plainOf t)[k] = i at hi
    have him := List.mem_of_getElem? hi
    obtain ⟨j, rfl, hj, n, hn, hp⟩ := hpn i him
    have e : tAt t j = n := by unfold tAt; rw [Int.toNat_natCast, hn]
    have hnr := hat j him
    rw [e] at hnr
    have hro := runsL_ok (g := gathOf lv) (t := t) (N := lv.length) ((plainOf t).take k) fun i hi => hat i (List.mem_of_mem_take hi)
    rw [← ho, List.length_map, List.length_take] at hro
    have hstep : runsL (gathOf lv) t ((plainOf t).take (k + 1)) = rnStep (gathOf lv) (out.map toC) j n := by
      rw [take_snoc hi, runsL, List.foldl_append, List.foldl_cons, List.foldl_nil, e, ho]
      rfl
    have hget : ∀ r, out[out.length - 1]? = some r → (out.map toC)[(out.map toC).length - 1]? = some (toC r) := fun r hr => by rw [List.length_map, List.getElem?_map, hr]; rfl
    unfold P_r4_Runs_L1
    refine .ifp (by omega) (Ok.andx (P := fun o : List S_duodecimoref04_Run => o.map toC = runsL (gathOf lv) t ((plainOf t).take (k + 1))) ?_ ?_)
    · rw [hstep]
      refine .el (by omega) fun a ha => ?_
      have ha := get_of ha rfl
      rw [hi] at ha
      cases ha
      refine .el (by omega) fun b hb => ?_
      have hb := get_of hb rfl
      rw [hn] at hb
      cases hb
      refine Ok.seqx ?_
      have happ : rnStep (gathOf lv) (out.map toC) j n = (out.map toC) ++ [⟨j, n, n⟩] → OkX (fun x : Unit => el (plainOf t) (k : Int) fun a63 => chk (out.length + [(⟨a63, n, n⟩ : S_duodecimoref04_Run)].length < 1000000000) (some (out ++ [(⟨a63, n, n⟩ : S_duodecimoref04_Run)]))) (fun o => o.map toC = rnStep (gathOf lv) (out.map toC) j n) (Ex.nx ()) := fun e => by
        show Ok _ _
        refine .el (by omega) fun a ha => ?_
        have ha := get_of ha rfl
        rw [hi] at ha
        cases ha
        refine .chk (by simp; omega) (.some ?_)
        rw [e, List.map_append]
        rfl
      refine .ite (fun hk0 => ?_) (fun hk0 => ?_)
      · have hpos : 1 ≤ out.length := by
          have := runsL_pos (g := gathOf lv) (t := t) (l := (plainOf t).take k) (fun e => by
            have := congrArg List.length e
            rw [List.length_take, List.length_nil] at this
            omega)
          rw [← ho, List.length_map] at this
          exact this
        refine .chk (i64_small (by omega)) (.el (by omega) fun r hr => ?_)
        have hr : out[out.length - 1]? = some r := get_of hr (by omega)
        have hr2 := hget r hr
        have hrk := hro.1 (toC r) (List.mem_map_of_mem (List.mem_of_getElem? hr))
        refine Ok.andx (P := fun b : Bool => b = true ↔ (r.last < n ∧ gathOf lv r.last = gathOf lv n)) ?_ ?_
        · refine .el ⟨hrk.2.2.1, hrk.2.2.2⟩ fun a ha => .el hnr fun b hb => ?_
          have ga : gathOf lv r.last = a.g := by unfold gathOf; rw [show lv[r.last.toNat]? = some a from ha]
          have gb : gathOf lv n = b.g := by unfold gathOf; rw [hb]
          rw [ga, gb]
          refine .ite (fun hc => .some ?_) (fun hc => .some ?_)
          · rw [decide_eq_true_iff]; exact ⟨fun h => ⟨h, hc⟩, fun h => h.1⟩
          · simp [hc]
        · rintro b hb
          refine .ite (fun hc => ?_) (fun hc => ?_)
          · refine .chk (i64_small (by omega)) (.el (by omega) fun r' hr' => ?_)
            have hr' : out[out.length - 1]? = some r' := get_of hr' (by omega)
            rw [hr] at hr'
            cases hr'
            refine .some ?_
            show List.map toC _ = _
            unfold rnStep
            rw [hr2]
            simp only
            rw [if_pos (show (toC r).last < n ∧ gathOf lv (toC r).last = gathOf lv n from hb.1 hc), List.map_set, show ((out.length : Int) - 1).toNat = out.length - 1 by omega, List.length_map]
            rfl
          · refine .some (happ ?_)
            unfold rnStep
            rw [hr2]
            simp only
            rw [if_neg (show ¬ ((toC r).last < n ∧ gathOf lv (toC r).last = gathOf lv n) from fun h => hc (hb.2 h))]
      · refine .some (happ ?_)
        have : k = 0 := by omega
        subst this
        rw [List.take_zero] at ho
        rw [ho]
        rfl
    · rintro o ho'
      exact .chk (i64_small (by omega)) (.some ⟨rfl, ho'⟩)
  · rintro ⟨x, out⟩ hx ho
    simp only at hx ho
    unfold P_r4_Runs_L1
    refine .ifn (by omega) (.some ?_)
    show out.map toC = _
    rw [ho, List.take_length]
end Go.Am
end
section
namespace Go.Am
set_option linter.unusedVariables false
def f2step (last k : Int) (p : S_copy_run × Int) (s : Int × Int) : Int × Int := if p.1.first > last ∧ p.2 + 1 > s.1 then (p.2 + 1, k) else s
def follow2 (last : Int) : List (S_copy_run × Int) → Int → Int × Int → Int × Int
 | [], _, s => s
 | p :: ps, k, s => follow2 last ps (k + 1) (f2step last k p s)
theorem follow2_snoc {last : Int} {p : S_copy_run × Int} : ∀ (ps : List (S_copy_run × Int)) (k : Int) (s : Int × Int), follow2 last (ps ++ [p]) k s = f2step last (k + ps.length) p (follow2 last ps k s) := by
 intro ps
 induction ps with
 | nil => intro k s; simp [follow2]
 | cons q ps ih =>
  intro k s;rw [List.cons_append, follow2, ih, follow2, List.length_cons]
  congr 1
  omega
def keptFrom : List (S_copy_run × Int) → Int → Int → Int → List Int
 | [], _, _, _ => []
 | p :: ps, k, b, last => if p.2 = b ∧ p.1.first > last then k :: keptFrom ps (k + 1) (b - 1) p.1.last else keptFrom ps (k + 1) b last
theorem keptFrom_zero : ∀ (ps : List (S_copy_run × Int)) (k last : Int), (∀ p ∈ ps, 1 ≤ p.2) → keptFrom ps k 0 last = [] := by
 intro ps
 induction ps with
 | nil => intro k last _; rfl
 | cons p ps ih =>
  intro k last h
  have := h p List.mem_cons_self;rw [keptFrom, if_neg (by omega)];exact ih _ _ fun q hq => h q (List.mem_cons_of_mem _ hq)
theorem follow_cons (last : Int) (p : S_copy_run × Int) (ps : List (S_copy_run × Int)) (a : Int) : follow last (p :: ps) a = follow last ps (if p.1.first > last then max a p.2 else a) := rfl
theorem follow_ge (last : Int) : ∀ (ps : List (S_copy_run × Int)) (a : Int), a ≤ follow last ps a := by
 intro ps
 induction ps with
 | nil => intro a; exact Int.le_refl _
 | cons p ps ih =>
  intro a;rw [follow_cons]
  have := ih (if p.1.first > last then max a p.2 else a);split at this <;> rename_i h
  ·rw [if_pos h]; omega
  ·rw [if_neg h]; exact this
theorem first_best (last : Int) : ∀ (ps : List (S_copy_run × Int)) (k a x : Int),
  (follow2 last ps k (a + 1, x)).1 = follow last ps a + 1 ∧ (follow last ps a = a → (follow2 last ps k (a + 1, x)).2 = x) ∧
  (follow last ps a > a → ∃ (j : Nat) (p : S_copy_run × Int), ps[j]? = some p ∧ (follow2 last ps k (a + 1, x)).2 = k + j ∧ p.2 = follow last ps a ∧ keptFrom ps k (follow last ps a) last = (k + j) :: keptFrom (ps.drop (j + 1)) (k + j + 1) (follow last ps a - 1) p.1.last) := by
 intro ps
 induction ps with
 | nil => intro k a x; exact ⟨rfl, fun _ => rfl, fun h => by simp [follow] at h⟩
 | cons p ps ih =>
  intro k a x;rw [follow_cons, follow2]
  by_cases hc : p.1.first > last ∧ p.2 > a
  ·have e1 : f2step last k p (a + 1, x) = (p.2 + 1, k) := by unfold f2step; rw [if_pos ⟨hc.1, by simp only; omega⟩]
   have e2 : (if p.1.first > last then max a p.2 else a) = p.2 := by rw [if_pos hc.1]; omega
   rw [e1, e2];obtain ⟨i1, i2, i3⟩ := ih (k + 1) p.2 k
   have hge := follow_ge last ps p.2;refine ⟨i1, fun h => by omega, fun _ => ?_⟩
   by_cases hF : follow last ps p.2 = p.2
   ·refine ⟨0, p, rfl, by rw [i2 hF]; simp, hF.symm, ?_⟩;rw [hF, keptFrom, if_pos ⟨rfl, hc.1⟩];simp
   ·obtain ⟨j, q, h1, h2, h3, h4⟩ := i3 (by omega);refine ⟨j + 1, q, h1, by rw [h2]; omega, h3, ?_⟩;rw [keptFrom, if_neg (by omega), h4, List.drop_succ_cons];rw [show k + 1 + (j : Int) = k + ((j + 1 : Nat) : Int) by omega]
  ·have e1 : f2step last k p (a + 1, x) = (a + 1, x) := by unfold f2step; rw [if_neg (fun h => hc ⟨h.1, by have := h.2; simp only at this; omega⟩)]
   have e2 : (if p.1.first > last then max a p.2 else a) = a := by
    split
    ·rename_i h; have : ¬ p.2 > a := fun h2 => hc ⟨h, h2⟩; omega
    ·rfl
   rw [e1, e2];obtain ⟨i1, i2, i3⟩ := ih (k + 1) a x;refine ⟨i1, i2, fun hF => ?_⟩;obtain ⟨j, q, h1, h2, h3, h4⟩ := i3 hF;refine ⟨j + 1, q, h1, by rw [h2]; omega, h3, ?_⟩;rw [keptFrom, if_neg (fun h => hc ⟨h.2, by omega⟩), h4, List.drop_succ_cons];rw [show k + 1 + (j : Int) = k + ((j + 1 : Nat) : Int) by omega]
theorem chains_drop : ∀ (l : List S_copy_run) (i : Nat), chains (l.drop i) = (chains l).drop i := by
 intro l
 induction l with
 | nil => intro i; simp [chains]
 | cons r l ih =>
  intro i;cases i with
  | zero => rfl
  | succ i => rw [List.drop_succ_cons, chains, List.drop_succ_cons]; exact ih i
def nextsFrom : Int → List S_copy_run → List Int
 | _, [] => []
 | k, r :: l => (follow2 r.last (l.zip (chains l)) (k + 1) (1, -1)).2 :: nextsFrom (k + 1) l
theorem nextsFrom_len : ∀ (l : List S_copy_run) (k : Int), (nextsFrom k l).length = l.length := by
 intro l
 induction l with
 | nil => intro k; rfl
 | cons r l ih => intro k; simp [nextsFrom, ih]
theorem nextsFrom_drop : ∀ (l : List S_copy_run) (k : Int) (i : Nat), nextsFrom (k + i) (l.drop i) = (nextsFrom k l).drop i := by
 intro l
 induction l with
 | nil => intro k i; simp [nextsFrom]
 | cons r l ih =>
  intro k i;cases i with
  | zero => simp
  | succ i =>
   rw [List.drop_succ_cons, nextsFrom, List.drop_succ_cons, ← ih (k + 1) i]
   congr 1
   omega
def behind (l : List S_copy_run) (i : Nat) : List (S_copy_run × Int) := (l.drop (i + 1)).zip (chains (l.drop (i + 1)))
theorem behind_len {l : List S_copy_run} {i : Nat} : (behind l i).length = l.length - (i + 1) := by unfold behind; rw [List.length_zip, chains_len, List.length_drop]; omega
theorem behind_get {l : List S_copy_run} {i m : Nat} {r : S_copy_run} (h : l[i + 1 + m]? = some r) : ∃ c, (chains l)[i + 1 + m]? = some c ∧ (behind l i)[m]? = some (r, c) := by
 have hlt := (List.getElem?_eq_some_iff.1 h).1
 have hc : (chains l)[i + 1 + m]? = some ((chains l)[i + 1 + m]'(by rw [chains_len]; exact hlt)) := List.getElem?_eq_getElem _;refine ⟨_, hc, ?_⟩;unfold behind;rw [List.getElem?_zip_eq_some, List.getElem?_drop, chains_drop, List.getElem?_drop];exact ⟨h, hc⟩
theorem chains_at {l : List S_copy_run} {i : Nat} {r : S_copy_run} (h : l[i]? = some r) : (chains l)[i]? = some (follow r.last (behind l i) 0 + 1) := by
 have e := chains_drop l i;rw [drop_cons h, chains] at e
 have := congrArg (·[0]?) e;simp only [List.getElem?_drop, Nat.add_zero, List.getElem?_cons_zero] at this;rw [← this]; rfl
theorem nexts_at {l : List S_copy_run} {i : Nat} {r : S_copy_run} (h : l[i]? = some r) : (nextsFrom 0 l)[i]? = some (follow2 r.last (behind l i) ((i : Int) + 1) (1, -1)).2 := by
 have e := nextsFrom_drop l 0 i;rw [drop_cons h, nextsFrom] at e
 have := congrArg (·[0]?) e;simp only [List.getElem?_drop, Nat.add_zero, List.getElem?_cons_zero] at this;rw [← this, Int.zero_add]; rfl
theorem behind_pos {l : List S_copy_run} {i : Nat} : ∀ p ∈ behind l i, 1 ≤ p.2 := fun p hp => (chains_bounds _ p.2 (List.of_mem_zip hp).2).1
theorem zip_drop {α β : Type} : ∀ (k : Nat) (l : List α) (m : List β), (l.zip m).drop k = (l.drop k).zip (m.drop k) := by
 intro k
 induction k with
 | zero => intro l m; rfl
 | succ k ih =>
  intro l m;cases l with
  | nil => simp
  | cons a l => cases m with
   | nil => simp
   | cons b m => exact ih l m
theorem behind_drop {l : List S_copy_run} {i j : Nat} : (behind l i).drop (j + 1) = behind l (i + 1 + j) := by
 unfold behind;rw [zip_drop, List.drop_drop, ← chains_drop, List.drop_drop, show i + 1 + (j + 1) = i + 1 + j + 1 by omega]
def rowM (l : List S_copy_run) (i : Nat) : List Int := List.replicate i 0 ++ chains (l.drop i)
def rowN (l : List S_copy_run) (i : Nat) : List Int := List.replicate i 0 ++ nextsFrom i (l.drop i)
theorem rowM_len {l : List S_copy_run} {i : Nat} (hi : i ≤ l.length) : (rowM l i).length = l.length := by
 unfold rowM; rw [List.length_append, List.length_replicate, chains_len, List.length_drop]; omega
theorem rowN_len {l : List S_copy_run} {i : Nat} (hi : i ≤ l.length) : (rowN l i).length = l.length := by
 unfold rowN; rw [List.length_append, List.length_replicate, nextsFrom_len, List.length_drop]; omega
theorem rowM_get {l : List S_copy_run} {i k : Nat} (hk : i ≤ k) : (rowM l i)[k]? = (chains l)[k]? := by
 unfold rowM;rw [List.getElem?_append_right (by rw [List.length_replicate]; exact hk), List.length_replicate, chains_drop, List.getElem?_drop, show i + (k - i) = k by omega]
theorem rowM_step {l : List S_copy_run} {i : Nat} {r : S_copy_run} (hr : l[i]? = some r) : (rowM l (i + 1)).set i (follow r.last (behind l i) 0 + 1) = rowM l i := by
 have e : List.replicate (i + 1) (0 : Int) = List.replicate i 0 ++ [0] := List.replicate_succ';unfold rowM;rw [e, List.append_assoc, List.set_append_right _ _ (by rw [List.length_replicate]; omega), List.length_replicate, Nat.sub_self, drop_cons hr, chains];rfl
theorem rowN_step {l : List S_copy_run} {i : Nat} {r : S_copy_run} (hr : l[i]? = some r) : (rowN l (i + 1)).set i (follow2 r.last (behind l i) ((i : Int) + 1) (1, -1)).2 = rowN l i := by
 have e : List.replicate (i + 1) (0 : Int) = List.replicate i 0 ++ [0] := List.replicate_succ';unfold rowN;rw [e, List.append_assoc, List.set_append_right _ _ (by rw [List.length_replicate]; omega), List.length_replicate, Nat.sub_self, drop_cons hr, nextsFrom];rfl
theorem kinner_ok {rs : List S_duodecimoref04_Run} {l : List S_copy_run} (hl : l = rs.map toC) (hn : l.length ≤ 120) {i : Nat} {r : S_copy_run} (hr : l[i]? = some r) :
  iter (P_r4_Kept_L2 rs i) (((i : Int) + 1), (rowN l (i + 1)).set i (-1), (rowM l (i + 1)).set i 1) = some (rowN l i, rowM l i) := by
 have hi : i < l.length := (List.getElem?_eq_some_iff.1 hr).1
 have hll : l.length = rs.length := by rw [hl, List.length_map]
 have hcb := chains_bounds l;refine Ok.get ?_;refine Ok.count (fun s => s.1 - ((i : Int) + 1)) (l.length - (i + 1)) (fun k s => s.2.1 = (rowN l (i + 1)).set i (follow2 r.last ((behind l i).take k) ((i : Int) + 1) (1, -1)).2 ∧ s.2.2 = (rowM l (i + 1)).set i (follow2 r.last ((behind l i).take k) ((i : Int) + 1) (1, -1)).1) (by simp only; omega) ⟨rfl, rfl⟩ ?_ ?_
 ·rintro k ⟨kk, nx, many⟩ hk hx ⟨h1, h2⟩;simp only at hx h1 h2
  have hkk : kk = ((i + 1 + k : Nat) : Int) := by omega
  subst hkk h1 h2;obtain ⟨q, hq⟩ : ∃ q, l[i + 1 + k]? = some q := ⟨_, List.getElem?_eq_getElem (by omega)⟩;obtain ⟨c, hc1, hc2⟩ := behind_get hq
  have hcv := hcb c (List.mem_of_getElem? hc1)
  have hst : follow2 r.last ((behind l i).take (k + 1)) ((i : Int) + 1) (1, -1) = f2step r.last ((i + 1 + k : Nat) : Int) (q, c) (follow2 r.last ((behind l i).take k) ((i : Int) + 1) (1, -1)) := by
   rw [take_snoc hc2, follow2_snoc, List.length_take, behind_len]
   congr 1
   omega
  have hrs : ∀ (k : Nat) (a : S_duodecimoref04_Run), rs[k]? = some a → l[k]? = some (toC a) := fun k a h => by rw [hl, List.getElem?_map, h]; rfl
  have hmk : ((rowM l (i + 1)).set i (follow2 r.last ((behind l i).take k) ((i : Int) + 1) (1, -1)).1)[i + 1 + k]? = some c := by
   rw [List.getElem?_set_ne (by omega), rowM_get (by omega), hc1]
  have hmi : ∀ x, ((rowM l (i + 1)).set i x)[i]? = some x := fun x => List.getElem?_set_self (by rw [rowM_len (by omega)]; exact hi)
  generalize hS : follow2 r.last ((behind l i).take k) ((i : Int) + 1) (1, -1) = S at *;obtain ⟨S1, S2⟩ := S;simp only at hmk ⊢
  have hlM : ((rowM l (i + 1)).set i S1).length = l.length := by rw [List.length_set, rowM_len (by omega)]
  have hlN : ((rowN l (i + 1)).set i S2).length = l.length := by rw [List.length_set, rowN_len (by omega)]
  unfold P_r4_Kept_L2;refine .ifp (by omega) (Ok.andx (P := fun s : List Int × List Int => s.1 = (rowN l (i + 1)).set i (follow2 r.last ((behind l i).take (k + 1)) ((i : Int) + 1) (1, -1)).2 ∧ s.2 = (rowM l (i + 1)).set i (follow2 r.last ((behind l i).take (k + 1)) ((i : Int) + 1) (1, -1)).1) ?_ ?_)
  ·rw [hst];refine Ok.andx (P := fun b : Bool => b = true ↔ (q.first > r.last ∧ c + 1 > S1)) ?_ ?_
   ·refine .el (by omega) fun a ha => ?_
    have ha := hrs _ _ (get_of ha rfl);rw [hq] at ha;cases ha;refine .el (by omega) fun b hb => ?_
    have hb := hrs _ _ (get_of hb rfl);rw [hr] at hb;cases hb;refine .ite (fun h => ?_) (fun h => ?_)
    ·refine .el (by rw [hlM]; omega) fun x hx => ?_
     have hx := get_of hx rfl;rw [hmk] at hx;cases hx;refine .chk (i64_small (by omega)) (.el (by rw [hlM]; omega) fun y hy => .some ?_)
     have hy := get_of hy rfl;rw [hmi] at hy;cases hy;rw [decide_eq_true_iff];exact ⟨fun h2 => ⟨h, h2⟩, fun h2 => h2.2⟩
    ·refine .some ?_;simp only [Bool.false_eq_true, false_iff];exact fun h2 => h h2.1
   ·rintro b hb;unfold f2step;refine .ite (fun h => ?_) (fun h => ?_)
    ·refine .el (by rw [hlM]; omega) fun x hx => ?_
     have hx := get_of hx rfl;rw [hmk] at hx;cases hx;refine .chk (i64_small (by omega)) (.el (by rw [hlM]; omega) fun y hy => .el (by rw [hlN]; omega) fun z hz => .some ?_);rw [if_pos (hb.1 h), Int.toNat_natCast, List.set_set, List.set_set];exact ⟨rfl, rfl⟩
    ·refine .some ?_;rw [if_neg (fun h2 => h (hb.2 h2))];exact ⟨rfl, rfl⟩
  ·rintro ⟨a, b⟩ ⟨q1, q2⟩;exact .chk (i64_small (by omega)) (.some ⟨by simp only; omega, q1, q2⟩)
 ·rintro ⟨kk, nx, many⟩ hx ⟨h1, h2⟩;simp only at hx h1 h2;unfold P_r4_Kept_L2;refine .ifn (by omega) (.some ?_)
  show (nx, many) = _;rw [h1, h2, List.take_of_length_le (by rw [behind_len]; omega), rowN_step hr]
  have := (first_best r.last (behind l i) ((i : Int) + 1) 0 (-1)).1;rw [Int.zero_add] at this;rw [this, rowM_step hr]
theorem top_follow (last : Int) : ∀ (ps : List (S_copy_run × Int)) (a : Int), (∀ p ∈ ps, p.1.first > last) → follow last ps a = max a (top (ps.map (·.2))) ∨ a < 0 := by
 intro ps
 induction ps with
 | nil => intro a _; simp only [follow, List.foldl_nil, List.map_nil, top]; omega
 | cons p ps ih =>
  intro a h;rw [follow_cons, if_pos (h p List.mem_cons_self), List.map_cons, top]
  have := ih (max a p.2) fun q hq => h q (List.mem_cons_of_mem _ hq)
  omega
def keptOf (l : List S_copy_run) : List Int := keptFrom (l.zip (chains l)) 0 (top (chains l)) (-1)
def restAt (l : List S_copy_run) (i : Nat) (r : S_copy_run) : List Int := (i : Int) :: keptFrom (behind l i) ((i : Int) + 1) (follow r.last (behind l i) 0) r.last
theorem Kept_ok {rs : List S_duodecimoref04_Run} {l : List S_copy_run} {N : Nat} (hl : l = rs.map toC) (hn : l.length ≤ 120) (hr : ∀ r ∈ l, RunOk N r) : P_r4_Kept rs = some (keptOf l) := by
 refine Ok.get ?_
 have hll : l.length = rs.length := by rw [hl, List.length_map]
 have hcb := chains_bounds l;unfold P_r4_Kept;refine .chk (by omega) (.chk (by omega) (Ok.andx (P := fun s : List Int × List Int => s = (nextsFrom 0 l, chains l)) ?_ ?_))
 ·refine .chk (i64_small (by omega)) (Ok.count (fun s => ((rs.length : Int) - 1) - s.1) l.length (fun k s => s.2.1 = rowN l (l.length - k) ∧ s.2.2 = rowM l (l.length - k)) (by simp only; omega) ⟨?_, ?_⟩ ?_ ?_)
  ·simp only [Nat.sub_zero, rowN, List.drop_length, nextsFrom, List.append_nil];rw [Int.toNat_natCast, hll]
  ·simp only [Nat.sub_zero, rowM, List.drop_length, chains, List.append_nil];rw [Int.toNat_natCast, hll]
  ·rintro k ⟨i, nx, many⟩ hk hx ⟨h1, h2⟩;simp only at hx h1 h2;obtain ⟨j, hj⟩ : ∃ j : Nat, j = l.length - 1 - k := ⟨_, rfl⟩
   have hi : i = (j : Int) := by omega
   subst hi;obtain ⟨r, hrj⟩ : ∃ r, l[j]? = some r := ⟨_, List.getElem?_eq_getElem (by omega)⟩
   have e1 : l.length - k = j + 1 := by omega
   have e2 : l.length - (k + 1) = j := by omega
   rw [e1] at h1 h2;subst h1 h2;unfold P_r4_Kept_L1;refine .ifp (by omega) (Ok.andx (P := fun s => s = (rowN l j, rowM l j)) ?_ ?_)
   ·refine .el (by rw [rowM_len (by omega)]; omega) fun a ha => .el (by rw [rowN_len (by omega)]; omega) fun b hb => ?_
    refine .chk (i64_small (by omega)) ?_;rw [Int.toNat_natCast, kinner_ok hl hn hrj];exact .some rfl
   ·rintro s rfl;refine .chk (i64_small (by omega)) (.some ⟨by simp only; omega, ?_, ?_⟩)
    ·simp only [e2]
    ·simp only [e2]
  ·rintro ⟨i, nx, many⟩ hx ⟨h1, h2⟩;simp only at hx h1 h2;unfold P_r4_Kept_L1;refine .ifn (by omega) (.some ?_)
   show (nx, many) = _;rw [h1, h2, Nat.sub_self];unfold rowN rowM;simp
 ·rintro s rfl;simp only
  have hfirst : ∀ p ∈ l.zip (chains l), p.1.first > -1 := fun p hp => by have := (hr p.1 (List.of_mem_zip hp).1).1; omega
  have hzl : (l.zip (chains l)).length = l.length := by rw [List.length_zip, chains_len, Nat.min_self]
  have htop : follow (-1) (l.zip (chains l)) 0 = top (chains l) := by
   have h1 := top_follow (-1) (l.zip (chains l)) 0 hfirst
   have h2 : (l.zip (chains l)).map (·.2) = chains l := by rw [← List.unzip_snd]; rw [List.unzip_zip (chains_len l).symm]
   rw [h2] at h1
   have := (top_bounds (M := 120) (by omega) (chains l) fun m hm => by have := hcb m hm; omega).1;omega
  have hfb := first_best (-1) (l.zip (chains l)) 0 0 (-1);rw [htop, Int.zero_add] at hfb;refine Ok.andx (P := fun a : Int => a = (follow2 (-1) (l.zip (chains l)) 0 (1, -1)).2) (Ok.count (fun s : Int × Int => s.2) l.length (fun k (s : Int × Int) => ∃ a, follow2 (-1) ((l.zip (chains l)).take k) 0 (1, -1) = (a, s.1) ∧ ((s.1 = -1 ∧ a = 1) ∨ ∃ (j : Nat) (c : Int), s.1 = j ∧ j < k ∧ (chains l)[j]? = some c ∧ c + 1 = a)) rfl ⟨1, rfl, .inl ⟨rfl, rfl⟩⟩ ?_ ?_) ?_
  ·rintro k ⟨a, i⟩ hk hx ⟨v, h1, h2⟩;simp only at hx h1 h2;subst hx;obtain ⟨q, hq⟩ : ∃ q, l[k]? = some q := ⟨_, List.getElem?_eq_getElem hk⟩;obtain ⟨c, hc⟩ : ∃ c, (chains l)[k]? = some c := ⟨_, List.getElem?_eq_getElem (by rw [chains_len]; exact hk)⟩
   have hz : (l.zip (chains l))[k]? = some (q, c) := by rw [List.getElem?_zip_eq_some]; exact ⟨hq, hc⟩
   have hq0 := hfirst (q, c) (List.mem_of_getElem? hz)
   have hcv := hcb c (List.mem_of_getElem? hc)
   have hst : follow2 (-1) ((l.zip (chains l)).take (k + 1)) 0 (1, -1) = f2step (-1) k (q, c) (v, a) := by
    rw [take_snoc hz, follow2_snoc, h1, List.length_take, hzl]
    congr 1
    omega
   unfold P_r4_Kept_L3;refine .ifp (by omega) (Ok.andx (P := fun a' => ∃ v', follow2 (-1) ((l.zip (chains l)).take (k + 1)) 0 (1, -1) = (v', a') ∧ ((a' = -1 ∧ v' = 1) ∨ ∃ (j : Nat) (c : Int), a' = j ∧ j < k + 1 ∧ (chains l)[j]? = some c ∧ c + 1 = v')) ?_ ?_)
   ·rw [hst];refine Ok.andx (P := fun b : Bool => b = true ↔ c + 1 > v) ?_ ?_
    ·rcases h2 with ⟨rfl, rfl⟩ | ⟨j, c', rfl, hj, hcj, rfl⟩
     ·refine .ifp (by omega) (.some ?_);simp only [true_iff]; omega
     ·refine .ifn (by omega) (.el (by rw [chains_len]; omega) fun x hx => ?_)
      have hx := get_of hx rfl;rw [hc] at hx;cases hx;refine .el (by rw [chains_len]; omega) fun y hy => .some ?_
      have hy := get_of hy rfl;rw [hcj] at hy;cases hy;rw [decide_eq_true_iff];omega
    ·rintro b hb;unfold f2step;refine .ite (fun h => .some ?_) (fun h => .some ?_)
     ·rw [if_pos ⟨hq0, hb.1 h⟩];exact ⟨c + 1, rfl, .inr ⟨k, c, rfl, by omega, hc, rfl⟩⟩
     ·rw [if_neg (fun h2 => h (hb.2 h2.2))];refine ⟨v, rfl, ?_⟩
      rcases h2 with h2 | ⟨j, c', h3, h4, h5, h6⟩
      ·exact .inl h2
      ·exact .inr ⟨j, c', h3, by omega, h5, h6⟩
   ·rintro a' ha';exact .chk (i64_small (by omega)) (.some ⟨rfl, ha'⟩)
  ·rintro ⟨a, i⟩ hx ⟨v, h1, h2⟩;simp only at hx h1 h2;unfold P_r4_Kept_L3;refine .ifn (by omega) (.some ?_)
   show a = _;rw [← show (l.zip (chains l)).take l.length = l.zip (chains l) from List.take_of_length_le (by rw [hzl]; exact Nat.le_refl _), h1]
  ·rintro a0 ha0
   have hrest : ∀ (i : Nat) (r : S_copy_run), l[i]? = some r → ∀ nx, (nextsFrom 0 l)[i]? = some nx → (nx = -1 ∧ restAt l i r = [(i : Int)]) ∨ ∃ (j : Nat) (q : S_copy_run), nx = j ∧ i < j ∧ l[j]? = some q ∧ restAt l i r = (i : Int) :: restAt l j q := fun i r hri nx hnx => by
    rw [nexts_at hri] at hnx;cases hnx;obtain ⟨_, g2, g3⟩ := first_best r.last (behind l i) ((i : Int) + 1) 0 (-1);rw [Int.zero_add] at g2 g3
    have hge := follow_ge r.last (behind l i) 0
    by_cases hF : follow r.last (behind l i) 0 = 0
    ·refine .inl ⟨g2 hF, ?_⟩;unfold restAt;rw [hF, keptFrom_zero _ _ _ behind_pos]
    ·obtain ⟨j, p, p1, p2, p3, p4⟩ := g3 (by omega)
     have hlt := (List.getElem?_eq_some_iff.1 p1).1;rw [behind_len] at hlt;obtain ⟨q, hq⟩ : ∃ q, l[i + 1 + j]? = some q := ⟨_, List.getElem?_eq_getElem (by omega)⟩;obtain ⟨c, c1, c2⟩ := behind_get hq;rw [p1] at c2;cases c2
     have hca := chains_at hq;rw [c1] at hca
     have hca := Option.some.inj hca;refine .inr ⟨i + 1 + j, q, by rw [p2]; omega, by omega, hq, ?_⟩
     show (i : Int) :: _ = _;rw [p4, behind_drop];unfold restAt;simp only at p3;rw [← p3, hca, show (i : Int) + 1 + (j : Int) = ((i + 1 + j : Nat) : Int) by omega, Int.add_sub_cancel]
   have hstart : (a0 = -1 ∧ keptOf l = []) ∨ ∃ (j : Nat) (q : S_copy_run), a0 = j ∧ l[j]? = some q ∧ keptOf l = restAt l j q := by
    obtain ⟨_, g2, g3⟩ := hfb
    have := (top_bounds (M := 120) (by omega) (chains l) fun m hm => by have := hcb m hm; omega).1
    by_cases hF : top (chains l) = 0
    ·refine .inl ⟨by rw [ha0]; exact g2 hF, ?_⟩;unfold keptOf;rw [hF];exact keptFrom_zero _ _ _ fun p hp => (hcb p.2 (List.of_mem_zip hp).2).1
    ·obtain ⟨j, p, p1, p2, p3, p4⟩ := g3 (by omega)
     have p1' := p1;obtain ⟨p1a, p1b⟩ := (List.getElem?_zip_eq_some (z := (p.1, p.2))).1 p1
     have hca := chains_at p1a;rw [p1b] at hca
     have hca := Option.some.inj hca;refine .inr ⟨j, p.1, by rw [ha0, p2]; omega, p1a, ?_⟩;unfold keptOf restAt;rw [p4, ← p3, hca, Int.zero_add, Int.add_sub_cancel, zip_drop, ← chains_drop];rfl
   refine Ok.andx (P := fun o : List Int => o = keptOf l) (Ok.iter (fun s : Int × List Int => (s.1 = -1 ∧ s.2 = keptOf l) ∨ ∃ (j : Nat) (q : S_copy_run), s.1 = j ∧ l[j]? = some q ∧ keptOf l = s.2 ++ restAt l j q ∧ s.2.length ≤ j) (fun s => if s.1 < 0 then 0 else l.length - s.1.toNat) ?_ ?_) fun _ h => ⟨_, rfl, h⟩
   ·rcases hstart with ⟨h1, h2⟩ | ⟨j, q, h1, h2, h3⟩
    ·exact .inl ⟨h1, h2.symm⟩
    ·exact .inr ⟨j, q, h1, h2, h3, Nat.zero_le _⟩
   ·rintro ⟨a, out⟩ (⟨h1, h2⟩ | ⟨j, q, h1, h2, h3, h4⟩)
    ·simp only at h1 h2;unfold P_r4_Kept_L4;exact .ifn (by omega) (.some h2)
    ·simp only at h1 h3 h4;subst h1
     have hjl := (List.getElem?_eq_some_iff.1 h2).1;unfold P_r4_Kept_L4;refine .ifp (by omega) (.chk (by simp; omega) (.el (by rw [nextsFrom_len]; omega) fun nx hnx => .some ?_))
     have hnx := get_of hnx rfl
     rcases hrest j q h2 nx hnx with ⟨rfl, e⟩ | ⟨j', q', rfl, hlt, hq', e⟩
     ·refine ⟨.inl ⟨rfl, ?_⟩, ?_⟩
      ·rw [h3, e]
      ·simp only;rw [if_pos (by omega), if_neg (by omega)];omega
     ·have hjl' := (List.getElem?_eq_some_iff.1 hq').1;refine ⟨.inr ⟨j', q', rfl, hq', by rw [h3, e]; simp, by simp; omega⟩, ?_⟩;simp only;rw [if_neg (by omega), if_neg (by omega)];omega
end Go.Am
end
section
namespace Go.Am
set_option linter.unusedVariables false
theorem keptFrom_ge : ∀ (ps : List (S_copy_run × Int)) (k b last : Int), ∀ i ∈ keptFrom ps k b last, k ≤ i := by
 intro ps
 induction ps with
 | nil => intro k b last i h; cases h
 | cons p ps ih =>
  intro k b last i h;rw [keptFrom] at h;split at h
  ·rcases List.mem_cons.1 h with rfl | h
   ·exact Int.le_refl _
   ·have := ih _ _ _ i h; omega
  ·have := ih _ _ _ i h; omega
theorem keptFrom_len : ∀ (ps : List (S_copy_run × Int)) (k b last : Int), (keptFrom ps k b last).length ≤ ps.length := by
 intro ps
 induction ps with
 | nil => intro k b last; exact Nat.le_refl _
 | cons p ps ih =>
  intro k b last;rw [keptFrom];split
  ·have := ih (k + 1) (b - 1) p.1.last; simp; omega
  ·have := ih (k + 1) b last; simp; omega
theorem Of_ok {s : Int} {g : List Gat} {t : List Int} (h : GoodBook s g) (ht : t.length ≤ 120) (hin : TruthIn (lvs s g).length t) :
    P_r4_Of s g t = some (t, lostOf (lvs s g).length t, piecesOf (matesOf s g) (lostOf (lvs s g).length t), strangeOf t, twiceOf t, movedOf (runsOf (gathOf (lvs s g)) t), allOf (lvs s g).length (matesOf s g) (gathOf (lvs s g)) t) := by
  refine Ok.get ?_
  unfold P_r4_Of
  have hnl := h.nl
  have hl := lostOf_len (lvs s g).length t
  have hp := piecesOf_le (matesOf s g) (lostOf (lvs s g).length t)
  have h1 : (strangeOf t).length ≤ 120 := Nat.le_trans (idxTo_len _ _ _) ht
  have h2 : (twiceOf t).length ≤ 120 := Nat.le_trans (idxTo_len _ _ _) ht
  have hr := runsTo_ok (g := gathOf (lvs s g)) hin t.length
  have hm := movedOf_len (runsOf (gathOf (lvs s g)) t)
  have hrl : (runsOf (gathOf (lvs s g)) t).length ≤ t.length := hr.2
  refine .chk (by simp; omega) (.andx' (Gone_ok h (by omega)) (.andx' (Pieces_ok h (fun x hx => by have := mem_lostOf.1 hx; omega) (by omega)) (.andx' (Plain_ok (by omega)) ?_)))
  refine Ok.andx (P := fun x : List Int × List Int => x = (strangeOf t, twiceOf t)) (Ok.count (fun s => s.1) t.length (fun k s => s.2.1 = idxTo isStrange t k ∧ s.2.2 = idxTo (isTwice t) t k) rfl ⟨rfl, rfl⟩ ?_ ?_) ?_
  · rintro k ⟨i, st, tw⟩ hk hx ⟨q1, q2⟩
    simp only at hx q1 q2
    subst hx q1 q2
    have hs1 := idxTo_len isStrange t k
    have hs2 := idxTo_len (isTwice t) t k
    have hpl : (plainOf t).length ≤ t.length := idxTo_len _ _ _
    unfold P_r4_Of_L1
    refine .ifp (by omega) (Ok.andx (P := fun x : List Int × List Int => x.1 = idxTo isStrange t (k + 1) ∧ x.2 = idxTo (isTwice t) t (k + 1)) ?_ ?_)
    · refine .el (by omega) fun n hn => ?_
      have hn := get_of hn rfl
      rw [idxTo_succ hn, idxTo_succ hn]
      refine .ite (fun h0 => ?_) (fun h0 => ?_)
      · have e2 : isStrange k n = true := decide_eq_true h0
        have e3 : isTwice t k n = false := decide_eq_false (by omega)
        rw [e2, e3]
        exact .chk (by simp; omega) (.some ⟨rfl, rfl⟩)
      · have e2 : isStrange k n = false := decide_eq_false h0
        rw [e2]
        refine .andx' (has_ok (by omega)) (.ite (fun hc => ?_) (fun hc => ?_))
        · have := ((mem_idxTo hn t.length).1 (of_decide_eq_true hc)).2
          have e3 : isTwice t k n = false := decide_eq_false (fun h => (of_decide_eq_true this).2 h.2)
          rw [e3]
          exact .some ⟨rfl, rfl⟩
        · have hnp : ¬ isPlain t k n = true := fun hp => hc (decide_eq_true ((mem_idxTo hn t.length).2 ⟨hk, hp⟩))
          have e3 : isTwice t k n = true := decide_eq_true ⟨by omega, by
            by_cases hmem : n ∈ t.take k
            · exact hmem
            · exact absurd (decide_eq_true ⟨by omega, hmem⟩) hnp⟩
          rw [e3]
          exact .chk (by simp; omega) (.some ⟨rfl, rfl⟩)
    · rintro ⟨a, b⟩ ⟨q1, q2⟩
      exact .chk (i64_small (by omega)) (.some ⟨rfl, q1, q2⟩)
  · rintro ⟨i, st, tw⟩ hx ⟨q1, q2⟩
    simp only at hx q1 q2
    unfold P_r4_Of_L1
    refine .ifn (by omega) (.some ?_)
    show (st, tw) = _
    rw [q1, q2]; rfl
  · rintro x rfl
    obtain ⟨rs, e1, e2⟩ := Runs_ok h ht hin
    refine .andx' e1 (.andx' (Kept_ok e2.symm (by omega) hr.1) ?_)
    generalize hL : runsOf (gathOf (lvs s g)) t = l at *
    have hll : l.length = rs.length := by rw [← e2, List.length_map]
    have hzl : (l.zip (chains l)).length = l.length := by rw [List.length_zip, chains_len, Nat.min_self]
    have hkl : (keptOf l).length ≤ 120 := by have := keptFrom_len (l.zip (chains l)) 0 (top (chains l)) (-1); unfold keptOf; omega
    refine Ok.andx (P := fun m : List Int => m = movedOf l) (Ok.count (fun s => s.1) rs.length (fun k (s : Int × List Int) => (∃ b last, movedOf l = s.2 ++ movedFrom ((l.zip (chains l)).drop k) b last ∧ ∀ i : Int, (k : Int) ≤ i → (i ∈ keptOf l ↔ i ∈ keptFrom ((l.zip (chains l)).drop k) k b last)) ∧ s.2.length ≤ k) rfl ⟨⟨top (chains l), -1, rfl, fun i _ => Iff.rfl⟩, Nat.le_refl _⟩ ?_ ?_) ?_
    · rintro k ⟨i, out⟩ hk hx ⟨⟨b, last, q1, q2⟩, q3⟩
      simp only at hx q1 q3
      subst hx
      obtain ⟨r, hrk⟩ : ∃ r, rs[k]? = some r := ⟨_, List.getElem?_eq_getElem hk⟩
      have hlk : l[k]? = some (toC r) := by rw [← e2, List.getElem?_map, hrk]; rfl
      obtain ⟨c, hc⟩ : ∃ c, (chains l)[k]? = some c := ⟨_, List.getElem?_eq_getElem (by rw [chains_len]; omega)⟩
      have hz : (l.zip (chains l))[k]? = some (toC r, c) := by rw [List.getElem?_zip_eq_some]; exact ⟨hlk, hc⟩
      rw [drop_cons hz, movedFrom] at q1
      rw [drop_cons hz] at q2
      simp only [keptFrom] at q1 q2
      unfold P_r4_Of_L2
      have hk2 := q2 k (Int.le_refl _)
      refine .ifp (by omega) (Ok.andx (P := fun o : List Int => (∃ b last, movedOf l = o ++ movedFrom ((l.zip (chains l)).drop (k + 1)) b last ∧ ∀ i : Int, ((k + 1 : Nat) : Int) ≤ i → (i ∈ keptOf l ↔ i ∈ keptFrom ((l.zip (chains l)).drop (k + 1)) ((k + 1 : Nat) : Int) b last)) ∧ o.length ≤ k + 1) ?_ ?_)
      · refine .andx' (has_ok (by omega)) ?_
        by_cases hcond : c = b ∧ (toC r).first > last
        · rw [if_pos hcond] at q1 hk2
          have hmem : (k : Int) ∈ keptOf l := hk2.2 List.mem_cons_self
          refine .ifp (decide_eq_true hmem) (.some ⟨⟨b - 1, (toC r).last, q1, fun i hi => ?_⟩, by omega⟩)
          rw [q2 i (by omega), if_pos hcond, List.mem_cons]
          exact ⟨fun h => h.elim (fun e => by omega) id, .inr⟩
        · rw [if_neg hcond] at q1 hk2
          have hmem : (k : Int) ∉ keptOf l := fun hm => by have := keptFrom_ge _ _ _ _ _ (hk2.1 hm); omega
          refine .ifn (by simp [hmem]) (.el (by omega) fun a ha => ?_)
          have ha := get_of ha rfl
          rw [hrk] at ha
          cases ha
          refine .chk (by simp; omega) (.some ⟨⟨b, last, by rw [q1, List.append_assoc]; rfl, fun i hi => ?_⟩, by simp; omega⟩)
          rw [q2 i (by omega), if_neg hcond]
          rfl
      · rintro o ⟨ho1, ho2⟩
        exact .chk (i64_small (by omega)) (.some ⟨rfl, ho1, ho2⟩)
    · rintro ⟨i, out⟩ hx ⟨⟨b, last, q1, q2⟩, q3⟩
      simp only at hx q1
      unfold P_r4_Of_L2
      refine .ifn (by omega) (.some ?_)
      show out = _
      rw [q1, List.drop_eq_nil_of_le (by omega), movedFrom, List.append_nil]
    · rintro m rfl
      refine .chk (i64_small (by omega)) (.chk (i64_small (by omega)) (.chk (i64_small (by omega)) (.some ?_)))
      rw [← hL]
      rfl
theorem truths_in {s : Int} {g : List Gat} {its : List Item} (h : GoodCase s g its) : ∀ t ∈ truthsOf its, t.length = its.length ∧ ∀ x ∈ t, x = -1 ∨ 0 ≤ x ∧ x < (lvs s g).length := by
  suffices k : ∀ (l : List Item) (p t : List Int), (∀ x ∈ l, ∀ n ∈ x.could.l, 0 ≤ n ∧ n ≤ ((lvs s g).length : Int) - 1) → (∀ x ∈ p, x = -1 ∨ 0 ≤ x ∧ x < (lvs s g).length) → t ∈ comps p l → t.length = p.length + l.length ∧ ∀ x ∈ t, x = -1 ∨ 0 ≤ x ∧ x < (lvs s g).length by
    intro t ht
    have := k its [] t h.rng (by simp) ht
    exact ⟨by simpa using this.1, this.2⟩
  intro l
  induction l with
  | nil =>
    intro p t _ hp ht
    rw [comps, List.mem_singleton] at ht
    subst ht
    exact ⟨rfl, hp⟩
  | cons x l ih =>
    intro p t hl hp ht
    rw [comps, List.mem_flatMap] at ht
    obtain ⟨c, hc, ht⟩ := ht
    have hcr : c = -1 ∨ 0 ≤ c ∧ c < (lvs s g).length := by
      unfold chs at hc
      split at hc
      · rw [List.mem_singleton] at hc; exact .inl hc
      · have := hl x List.mem_cons_self c hc; exact .inr ⟨this.1, by omega⟩
    have := ih (p ++ [c]) t (fun y hy => hl y (List.mem_cons_of_mem _ hy)) (fun y hy => by
      rcases List.mem_append.1 hy with hy | hy
      · exact hp y hy
      · rw [List.mem_singleton] at hy; subst hy; exact hcr) ht
    refine ⟨?_, this.2⟩
    rw [this.1]
    simp
    omega
noncomputable def manyOf (s : Int) (g : List Gat) (t : List Int) : Int := allOf (lvs s g).length (matesOf s g) (gathOf (lvs s g)) t
end Go.Am
end
section
namespace Go.Am
set_option linter.unusedVariables false
theorem openRes_err {s : Int} {g : List Gat} {its : List Item} (h : ¬ (caseErr s g its).2.2 = 0) : openRes s g its = .inl (caseErr s g its) := by unfold openRes; rw [if_neg h]
theorem openRes_ok {s : Int} {g : List Gat} {its : List Item} (h : (caseErr s g its).2.2 = 0) : openRes s g its = .inr (s, GSo true encL (lvs s g), matesOf s g, 0, 0, 0) := by unfold openRes; rw [if_pos h]
end Go.Am
end
section
namespace Go.Am
set_option linter.unusedVariables false
theorem count_le (g : Int → Int) (t : List Int) : ∀ k, (idxTo isStrange t k).length + (idxTo (isTwice t) t k).length + (runsTo g t k).length ≤ k := by
 intro k
 induction k with
 | zero => simp [idxTo, runsTo]
 | succ k ih =>
  cases h : t[k]? with
  | none =>
   rw [idxTo, idxTo, runsTo, h];simp only [List.append_nil];omega
  | some n =>
   rw [idxTo_succ h, idxTo_succ h, runsTo_succ h]
   by_cases h0 : n < 0
   ·have e1 : isPlain t k n = false := decide_eq_false (by omega)
    have e2 : isStrange k n = true := decide_eq_true h0
    have e3 : isTwice t k n = false := decide_eq_false (by omega);rw [e1, e2, e3];simp;omega
   ·have e2 : isStrange k n = false := decide_eq_false h0
    by_cases hm : n ∈ t.take k
    ·have e1 : isPlain t k n = false := decide_eq_false (fun h => h.2 hm)
     have e3 : isTwice t k n = true := decide_eq_true ⟨by omega, hm⟩;rw [e1, e2, e3];simp;omega
    ·have e1 : isPlain t k n = true := decide_eq_true ⟨by omega, hm⟩
     have e3 : isTwice t k n = false := decide_eq_false (fun h => hm h.2)
     have := rnStep_len (g := g) (l := runsTo g t k) (i := k) (n := n);rw [e1, e2, e3];simp;omega
theorem many_bounds (s : Int) (g : List Gat) (t : List Int) : 0 ≤ manyOf s g t ∧ manyOf s g t ≤ (lvs s g).length + t.length := by
 unfold manyOf allOf
 have h1 := piecesOf_le (matesOf s g) (lostOf (lvs s g).length t)
 have h2 := lostOf_len (lvs s g).length t
 have h3 := count_le (gathOf (lvs s g)) t t.length
 have h4 := movedOf_len (runsOf (gathOf (lvs s g)) t);unfold strangeOf twiceOf
 have h5 : (runsOf (gathOf (lvs s g)) t).length = (runsTo (gathOf (lvs s g)) t t.length).length := rfl;omega
theorem cfaults_ok {s : Int} {g : List Gat} {its : List Item} (h : GoodCase s g its) {its' : List Item} {s' : Int} {t : List Int} (ht : t ∈ truthsOf its) :
  P_c_faults s' g its' (lvs s g) (matesOf s g) t = some ([], lostOf (lvs s g).length t, piecesOf (matesOf s g) (lostOf (lvs s g).length t), strangeOf t, twiceOf t, movedOf (runsOf (gathOf (lvs s g)) t), manyOf s g t) := by
 have ht' := truths_in h t ht
 have := h.il;exact faults_ok h.nl (mates_len s g) (by omega) (fun x hx => by rcases ht'.2 x hx with h | h <;> omega)
theorem rOf_ok {s : Int} {g : List Gat} {its : List Item} (h : GoodCase s g its) {t : List Int} (ht : t ∈ truthsOf its) :
  P_r4_Of s g t = some (t, lostOf (lvs s g).length t, piecesOf (matesOf s g) (lostOf (lvs s g).length t), strangeOf t, twiceOf t, movedOf (runsOf (gathOf (lvs s g)) t), manyOf s g t) := by
 have ht' := truths_in h t ht
 have := h.il;exact Of_ok h.book (by omega) (fun x hx => by rcases ht'.2 x hx with h | h <;> omega)
theorem truths_pos {its : List Item} (hf : ∀ x ∈ its, x.could.l.length ≤ 4) : ∃ t l, truthsOf its = t :: l := by
 have h1 := (wid_le its hf).1
 have h2 := comps_len its [];cases h : truthsOf its with
 | nil => unfold truthsOf at h; rw [h] at h2; simp at h2; omega
 | cons t l => exact ⟨t, l, rfl⟩
end Go.Am
end
section
namespace Go.Am
set_option linter.unusedVariables false
end Go.Am
end
section
namespace Go.Am
set_option linter.unusedVariables false
abbrev okCase (s : Int) (g : List Gat) (its : List Item) : Prop := (caseErr s g its).2.2 = 0
theorem valid_ok {s : Int} {g : List Gat} {its : List Item} : P_l_valid s g its = some (decide (okCase s g its)) := by
 unfold P_l_valid;rw [r4_Check_ok];rfl
theorem ints_ok {a b : List Int} (h : a.length ≤ 1000000) : P_r1_Ints a b = some (decide (a = b)) := by unfold P_r1_Ints; rw [chk_pos (by omega)]
end Go.Am
end
section
namespace Go.Am
set_option linter.unusedVariables false
theorem mem_comps : ∀ (l : List Item) (p t : List Int), t ∈ comps p l ↔ ∃ u, t = p ++ u ∧ u.length = l.length ∧ ∀ (i : Nat) (x : Item), l[i]? = some x → ∃ c ∈ chs x, u[i]? = some c := by
 intro l
 induction l with
 | nil =>
  intro p t;rw [comps, List.mem_singleton]
  constructor
  ·rintro rfl; exact ⟨[], by simp, rfl, fun i x h => by cases h⟩
  ·rintro ⟨u, rfl, hu, _⟩;rw [List.eq_nil_of_length_eq_zero hu, List.append_nil]
 | cons x l ih =>
  intro p t;rw [comps, List.mem_flatMap]
  constructor
  ·rintro ⟨c, hc, ht⟩;obtain ⟨u, rfl, hu, h⟩ := (ih _ _).1 ht;refine ⟨c :: u, by simp, by simp [hu], fun i y hy => ?_⟩;cases i with
   | zero => cases hy; exact ⟨c, hc, rfl⟩
   | succ i => exact h i y hy
  ·rintro ⟨u, rfl, hu, h⟩;cases u with
   | nil => cases hu
   | cons c u =>
    obtain ⟨c', hc', e⟩ := h 0 x rfl;cases e;exact ⟨c, hc', (ih _ _).2 ⟨u, by simp, by simpa using hu, fun i y hy => h (i + 1) y hy⟩⟩
theorem mem_truths {l : List Item} {t : List Int} : t ∈ truthsOf l ↔ t.length = l.length ∧ ∀ (i : Nat) (x : Item), l[i]? = some x → ∃ c ∈ chs x, t[i]? = some c := by
 unfold truthsOf;rw [mem_comps]
 constructor
 ·rintro ⟨u, rfl, h1, h2⟩; exact ⟨h1, h2⟩
 ·rintro ⟨h1, h2⟩; exact ⟨t, rfl, h1, h2⟩
end Go.Am
end
