/- Part 4. -/
import Derived.Test.YthckcbfijdambaaCopyBoundP3
import Derived.Test.YthckcbfijdambaaCopyBoundP2
import Derived.ChangeArms
import Derived.ChangeSlices
import Derived.OpenShut
import Derived.Test.YthckcbfijdambaaRows
import Derived.ProofKit
import Derived.WalkKit
import Derived.ChangeOld
import Derived.Below
import Derived.Carry
section
namespace Go.Am.Ythckcbfijdambaa
open Go.Am Go.RowKit
set_option linter.unusedVariables false
set_option linter.unusedSimpArgs false
set_option maxRecDepth 10000 in
theorem tf_c_open {k : Nat} (hk : 5 ≤ k) {C : List Thing} {c_Book_Signed : Int} {v_c_Book_Gatherings : AV} {c_Book_Gatherings : List Gat} {v_c_Items : AV} {c_Items : List Item} (h_c_Book_Gatherings : Rdl C encG v_c_Book_Gatherings c_Book_Gatherings) (h_c_Items : Rdl C encIt v_c_Items c_Items) {r : Sum (Int × Int × Int) (Int × (GS encL) × (List Int) × Int × Int × Int)} (h : P_c_open c_Book_Signed c_Book_Gatherings c_Items = some r) :
  TF (EL k) 36 [.agg [iv (c_Book_Signed), v_c_Book_Gatherings, v_c_Items]] C (RepS (fun (r : Int × Int × Int) => RepF (fun (w : Unit) => .tuple [.lit (.pointer none), iv r.1, iv r.2.1, iv r.2.2]) (fun (w : Unit) => C)) (fun (r : Int × (GS encL) × (List Int) × Int × Int × Int) => RepF (fun (w : Nat × AV) => .tuple [.ptr w.1 0 5, iv r.2.2.2.1, iv r.2.2.2.2.1, iv r.2.2.2.2.2]) (fun (w : Nat × AV) => .row w.1 5 [iv r.1, v_c_Book_Gatherings, v_c_Items, r.2.1.v, w.2] :: ownL true w.2 encI r.2.2.1 :: C)) r) := by
 unfold P_c_open at h;refine TF.enter (fn := Go.Proofs.Try.f36) rfl rfl rfl rfl rfl (zU rfl (zQ 3 [_,_,_] R7 (fun b1=>zA R4 (zA R4 (zA R4 (zA R4 (zN (zS (zU rfl (zF 0 R6 (zV R3 (vW 0 [_,_] R5 R4) ?_)))))))))));obtain ⟨⟨part21, at_21, e21⟩, hr21, h⟩ := andx_some h;dsimp only at h;obtain ⟨g, hgg, hrg⟩ := Rdl.reif (hs := .row b1 3 [iv (c_Book_Signed), v_c_Book_Gatherings, v_c_Items] :: C) h_c_Book_Gatherings M1 (ReifL.flat encG_tr);refine TO.call rfl rfl rfl rfl rfl (orcL rfl aD) (.cons (.agg (.cons .lit (.cons (hrg _) .nil))) .nil) (sem_of (w_q_Check c_Book_Signed g _ (by try rw [hgg]; exact hr21))) (zM R4 (zX R5 (zX R5 (zX R5 (zA R4 (zN (zU rfl (zM R4 ?_))))))));obtain ⟨c26, hc26⟩ := zY (¬ e21 = 0);refine zV R3 (Val.neq hc26 rfl rfl) (zN ?_);obtain ⟨rfl, hc26, h⟩ | ⟨rfl, hc26, h⟩ := zI hc26 h
 ·refine zC rfl (zU rfl (zM R4 (zA R4 (zA R4 (zA R4 (zA R4 (zN (zR ?_))))))));cases h;exact ⟨rfl, _, rfl, ⟨(), rfl, (pk [98] rfl)⟩⟩
 refine zD rfl (zK (zU rfl (zF 0 R6 (zV R3 (vW 0 [_,_] R5 R4) ?_))));obtain ⟨⟨leaves31, e31⟩, hr31, h⟩ := andx_some h;dsimp only at h;obtain ⟨g_2, hgg_2, hrg_2⟩ := Rdl.reif (hs := .row b1 3 [iv (c_Book_Signed), v_c_Book_Gatherings, v_c_Items] :: C) h_c_Book_Gatherings M1 (ReifL.flat encG_tr);refine TO.call rfl rfl rfl rfl rfl (orcL rfl aD) (.cons (.agg (.cons .lit (.cons (hrg_2 _) .nil))) .nil) (sem_of (w_q_Leaves c_Book_Signed g_2 _ (by try rw [hgg_2]; exact hr31))) (zM R4 (zX R5 (zX R5 (zA R4 (zA R4 (zN (zS (zU rfl (zM R4 (zV R3 (Val.len_gs rfl rfl) ?_))))))))));obtain ⟨c36, hc36⟩ := zY ((leaves31.length : Int) > 120);refine zV R3 (Val.gtr hc36 rfl rfl) (zN ?_);obtain ⟨rfl, hc36, h⟩ | ⟨rfl, hc36, h⟩ := zI hc36 h
 ·refine zC rfl (zU rfl (zA R4 (zA R4 (zA R4 (zA R4 (zN (zR ?_)))))));cases h;exact ⟨rfl, _, rfl, ⟨(), rfl, (pk [98] rfl)⟩⟩
 refine zD rfl (zK (zS (zU rfl (zF 2 R6 (zL 0 R3 R6 (zV R3 (Val.len_l h_c_Items M1 rfl rfl) ?_))))));obtain ⟨c40, hc40⟩ := zY ((c_Items.length : Int) > 120);refine zV R3 (Val.gtr hc40 rfl rfl) (zN ?_);obtain ⟨rfl, hc40, h⟩ | ⟨rfl, hc40, h⟩ := zI hc40 h
 ·refine zC rfl (zU rfl (zA R4 (zA R4 (zA R4 (zA R4 (zN (zR ?_)))))));cases h;exact ⟨rfl, _, rfl, ⟨(), rfl, (pk [98] rfl)⟩⟩
 refine zD rfl (zK ?_)
 show T _ _ _ _ _ _;apply T.join (r := r) (W := Unit) (fun j w => ⟨[], [(1, .ptr b1 0 3), (6, (GSo true encL leaves31).v)], .row b1 3 [iv (c_Book_Signed), v_c_Book_Gatherings, v_c_Items] :: C⟩) h
 ·intro j h;refine zU rfl (zF 2 R6 (zL 0 R3 R6 (zV R3 (Val.len_l h_c_Items M1 rfl rfl) (zM R4 (zN (zB ?_))))))
  show T _ _ _ _ _ _;apply T.iter (r := j) (W := Unit) (fun j w => ⟨[], [(1, .ptr b1 0 3), (6, (GSo true encL leaves31).v), (42, v_c_Items), (43, iv ((c_Items.length : Int))), (44, iv (j))], .row b1 3 [iv (c_Book_Signed), v_c_Book_Gatherings, v_c_Items] :: C⟩) (w0 := ()) h
  ·exact (sb .refl)
  rintro x44 _ a h;unfold P_c_open_L1 at h;refine zU rfl ?_;obtain ⟨c45, hc45⟩ := zY (x44 < (c_Items.length : Int));refine zV R3 (Val.lss hc45 rfl rfl) (zN (zS ?_));obtain ⟨rfl, hc45, h⟩ | ⟨rfl, hc45, h⟩ := zI hc45 h
  ·refine zC rfl (zK ?_)
   show T _ _ _ _ _ _;apply T.join (r := a) (W := Unit) (fun j w => ⟨[], [(1, .ptr b1 0 3), (6, (GSo true encL leaves31).v), (42, v_c_Items), (43, iv ((c_Items.length : Int))), (44, iv (x44))], .row b1 3 [iv (c_Book_Signed), v_c_Book_Gatherings, v_c_Items] :: C⟩) h
   ·intro j h;refine zB (zU rfl (zM R4 ?_));obtain ⟨a47, hia47, ea47, h⟩ := el_some h;refine TO.fact (rdl_at h_c_Items M1 hia47 ea47) (fun hp=>?_);obtain ⟨pa47, hpa47, hva47⟩ := hp;refine zV R3 (hva47 ⟨rfl, rfl⟩ rfl rfl) (zV R3 (Val.load_es (c := [_]) hpa47 M1 ⟨⟨_, rfl, rfl⟩, rfl, by decide⟩ rfl rfl rfl) (zJ 1 [_] R7 (fun b9=>zA R4 (TO.eff0 rfl rfl (Eff.store_row (p := 0) (cv := [_]) (cells' := [_]) rfl rfl rfl rfl rfl rfl rfl rfl aG (by decide) rfl) ?_))));rintro _ rfl;refine zG (_::_::C) rfl (zN (zS (zB (zU rfl (zF 0 R6 (zL 0 R3 R6 (zV R3 (Val.len_gs rfl rfl) ?_)))))));obtain ⟨c53, hc53⟩ := zY ((a47.could.l.length : Int) > 4);refine zV R3 (Val.gtr hc53 rfl rfl) (zA R4 (zN ?_));obtain ⟨rfl, hc53, h⟩ | ⟨rfl, hc53, h⟩ := zI hc53 h
    ·refine zC rfl (zU rfl (zM R4 (zA R4 (zA R4 (zA R4 (zA R4 (zN (zR ?_))))))));cases h;exact ⟨ret_ne, ⟨ret_ne, ⟨ret_ne, ⟨rfl, _, rfl, ⟨(), rfl, (pk [98,98] rfl)⟩⟩⟩⟩⟩
    refine zD rfl (zU rfl (zM R4 (zV R3 (Val.len_gs rfl rfl) ?_)));obtain ⟨hk58, h⟩ := chk_some h;refine zV R3 (Val.sub rfl rfl hk58) (zF 0 R6 (zL 0 R3 R6 ?_));obtain ⟨out61, hr61, h⟩ := andx_some h;refine TO.call rfl rfl rfl rfl rfl (orcL rfl aD) (.cons .lit (.cons .lit (.cons .gs .nil))) (sem_of (w_c_outside 0 ((leaves31.length : Int) - 1) a47.could _ (by exact hr61))) (zA R4 (zN ?_));obtain ⟨rfl, h⟩ | ⟨rfl, h⟩ := zZ h
    ·refine zC rfl (zU rfl (zM R4 (zA R4 (zA R4 (zA R4 (zA R4 (zN (zR ?_))))))));cases h;exact ⟨ret_ne, ⟨ret_ne, ⟨ret_ne, ⟨rfl, _, rfl, ⟨(), rfl, (pk [98,98] rfl)⟩⟩⟩⟩⟩
    refine zD rfl (zK (zU rfl (zF 0 R6 (zL 0 R3 R6 (zV R3 (Val.len_gs rfl rfl) (zM R4 (zN (zB ?_))))))))
    show T _ _ _ _ _ _;apply T.iter (r := j) (W := Unit) (fun j w => ⟨[], [(1, .ptr b1 0 3), (6, (GSo true encL leaves31).v), (8, iv (x44)), (9, .ptr b9 0 1), (42, v_c_Items), (43, iv ((c_Items.length : Int))), (44, iv (x44)), (64, a47.could.v), (65, iv ((a47.could.l.length : Int))), (66, iv (j))], .row b9 1 [a47.could.v] :: .row b1 3 [iv (c_Book_Signed), v_c_Book_Gatherings, v_c_Items] :: C⟩) (w0 := ()) h
    ·exact (sb .refl)
    rintro x66 _ a h;unfold P_c_open_L2 at h;refine zU rfl ?_;obtain ⟨c67, hc67⟩ := zY (x66 < (a47.could.l.length : Int));refine zV R3 (Val.lss hc67 rfl rfl) (zN (zS ?_));obtain ⟨rfl, hc67, h⟩ | ⟨rfl, hc67, h⟩ := zI hc67 h
    ·refine zC rfl (zK ?_)
     show T _ _ _ _ _ _;apply T.join (r := a) (W := Unit) (fun j w => ⟨[], [(1, .ptr b1 0 3), (6, (GSo true encL leaves31).v), (8, iv (x44)), (9, .ptr b9 0 1), (42, v_c_Items), (43, iv ((c_Items.length : Int))), (44, iv (x44)), (64, a47.could.v), (65, iv ((a47.could.l.length : Int))), (66, iv (x66))], .row b9 1 [a47.could.v] :: .row b1 3 [iv (c_Book_Signed), v_c_Book_Gatherings, v_c_Items] :: C⟩) h
     ·intro j h;refine zB (zU rfl (zM R4 ?_));obtain ⟨a69, hia69, ea69, h⟩ := el_some h;refine TO.fact (rdl_at (Rdl.gs (C := C) a47.could) M2 hia69 ea69) (fun hp=>?_);obtain ⟨pa69, hpa69, hva69⟩ := hp;refine zV R3 (hva69 ⟨rfl, rfl⟩ rfl rfl) (zV R3 (Val.load_e hpa69 M2 ⟨_, rfl, rfl⟩ rfl rfl) (zA R4 (zA R4 (zN ?_))))
      show T _ _ _ _ _ _;apply T.joinA (r := j) (W := Unit) (fun j w => ⟨[], [(1, .ptr b1 0 3), (6, (GSo true encL leaves31).v), (8, iv (x44)), (9, .ptr b9 0 1), (42, v_c_Items), (43, iv ((c_Items.length : Int))), (44, iv (x44)), (64, a47.could.v), (65, iv ((a47.could.l.length : Int))), (66, iv (x66)), (82, bv j)], .row b9 1 [a47.could.v] :: .row b1 3 [iv (c_Book_Signed), v_c_Book_Gatherings, v_c_Items] :: C⟩) h
      ·intro j h;refine zT rfl (zM R4 ?_);obtain ⟨c72, hc72⟩ := zY (x66 > 0);refine zV R3 (Val.gtr hc72 rfl rfl) (zM R4 ?_);obtain ⟨rfl, hc72, h⟩ | ⟨rfl, hc72, h⟩ := zI hc72 h
       ·refine zM R4 (zF 0 R6 (zL 0 R3 R6 (zM R4 ?_)));obtain ⟨hk78, h⟩ := chk_some h;refine zV R3 (Val.sub rfl rfl hk78) ?_;obtain ⟨a79, hia79, ea79, h⟩ := el_some h;refine TO.fact (rdl_at (Rdl.gs (C := C) a47.could) M2 hia79 ea79) (fun hp=>?_);obtain ⟨pa79, hpa79, hva79⟩ := hp;refine zV R3 (hva79 ⟨rfl, rfl⟩ rfl rfl) (zV R3 (Val.load_e hpa79 M2 ⟨_, rfl, rfl⟩ rfl rfl) ?_);obtain ⟨c81, hc81⟩ := zY (a69 ≤ a79);refine zV R3 (Val.leq hc81 rfl rfl) (zP R6 (zN ?_));subst hc81;cases h;exact ⟨rfl, (), (sb .refl)⟩
       refine zO R3 (zO R3 (zO R3 (zO R3 (zO R3 (zO R3 (zO R3 (zO R3 (zP R6 (zN ?_)))))))));cases h;exact ⟨rfl, (), (sb .refl)⟩
      ·rintro x82 _ h;obtain ⟨rfl, h⟩ | ⟨rfl, h⟩ := zZ h
       ·refine zC rfl (zU rfl (zM R4 (zA R4 (zA R4 (zA R4 (zA R4 (zN (zR ?_))))))));cases h;exact ⟨ret_ne, ⟨ret_ne, ⟨ret_ne, ⟨ret_ne, ⟨ret_ne, ⟨rfl, _, rfl, ⟨(), rfl, (pk [98,98] rfl)⟩⟩⟩⟩⟩⟩⟩
       refine zD rfl (zK ?_);cases h;exact ⟨rfl, (), (sb .refl)⟩
     ·rintro _ _ h;refine zT rfl ?_;obtain ⟨hk84, h⟩ := chk_some h;refine zV R3 (Val.add rfl rfl hk84) (zM R4 (zN ?_));cases h;exact ⟨rfl, (), (sb .refl)⟩
    refine zD rfl (zE ?_);cases h;exact ⟨ex_ne, ⟨rfl, (), (sb (pk [1,98] rfl))⟩⟩
   ·rintro _ _ h;refine zT rfl ?_;obtain ⟨hk85, h⟩ := chk_some h;refine zV R3 (Val.add rfl rfl hk85) (zM R4 (zN ?_));cases h;exact ⟨rfl, (), (sb .refl)⟩
  refine zD rfl (zE ?_);cases h;exact ⟨ex_ne, ⟨rfl, (), (sb .refl)⟩⟩
 ·rintro _ _ h;refine zU rfl (zA R4 (zN ?_))
  show T _ _ _ _ _ _;apply T.join (r := r) (W := Unit) (fun j w => ⟨[], [(1, .ptr b1 0 3), (6, (GSo true encL leaves31).v)], .row b1 3 [iv (c_Book_Signed), v_c_Book_Gatherings, v_c_Items] :: C⟩) h
  ·intro j h;refine zU rfl (zF 2 R6 (zL 0 R3 R6 (zV R3 (Val.len_l h_c_Items M1 rfl rfl) (zM R4 (zN (zB ?_))))))
   show T _ _ _ _ _ _;apply T.iter (r := j) (W := Unit) (fun j w => ⟨[], [(1, .ptr b1 0 3), (6, (GSo true encL leaves31).v), (12, iv (j.1)), (87, v_c_Items), (88, iv ((c_Items.length : Int))), (89, iv (j.2))], .row b1 3 [iv (c_Book_Signed), v_c_Book_Gatherings, v_c_Items] :: C⟩) (w0 := ()) h
   ·exact (sb .refl)
   rintro ⟨doubts, x89⟩ _ a h;unfold P_c_open_L3 at h;dsimp only at h;dsimp only;refine zU rfl ?_;obtain ⟨c90, hc90⟩ := zY (x89 < (c_Items.length : Int));refine zV R3 (Val.lss hc90 rfl rfl) (zN (zS ?_));obtain ⟨rfl, hc90, h⟩ | ⟨rfl, hc90, h⟩ := zI hc90 h
   ·refine zC rfl (zK ?_)
    show T _ _ _ _ _ _;apply T.join (r := a) (W := Unit) (fun j w => ⟨[], [(1, .ptr b1 0 3), (6, (GSo true encL leaves31).v), (12, iv (j)), (87, v_c_Items), (88, iv ((c_Items.length : Int))), (89, iv (x89))], .row b1 3 [iv (c_Book_Signed), v_c_Book_Gatherings, v_c_Items] :: C⟩) h
    ·intro j h;refine zB (zU rfl (zM R4 ?_));obtain ⟨a92, hia92, ea92, h⟩ := el_some h;refine TO.fact (rdl_at h_c_Items M1 hia92 ea92) (fun hp=>?_);obtain ⟨pa92, hpa92, hva92⟩ := hp;refine zV R3 (hva92 ⟨rfl, rfl⟩ rfl rfl) (zV R3 (Val.load_es (c := [_]) hpa92 M1 ⟨⟨_, rfl, rfl⟩, rfl, by decide⟩ rfl rfl rfl) (zJ 1 [_] R7 (fun b14=>zA R4 (TO.eff0 rfl rfl (Eff.store_row (p := 0) (cv := [_]) (cells' := [_]) rfl rfl rfl rfl rfl rfl rfl rfl aG (by decide) rfl) ?_))));rintro _ rfl;refine zG (_::_::C) rfl (zN ?_)
     show T _ _ _ _ _ _;apply T.joinA (r := j) (W := Unit) (fun j w => ⟨[], [(1, .ptr b1 0 3), (6, (GSo true encL leaves31).v), (12, iv (j)), (13, iv (x89)), (87, v_c_Items), (88, iv ((c_Items.length : Int))), (89, iv (x89))], .row b14 1 [a92.could.v] :: .row b1 3 [iv (c_Book_Signed), v_c_Book_Gatherings, v_c_Items] :: C⟩) h
     ·intro j h;refine zU rfl (zF 0 R6 (zL 0 R3 R6 (zV R3 (Val.len_gs rfl rfl) ?_)));obtain ⟨c97, hc97⟩ := zY ((a92.could.l.length : Int) > 1);refine zV R3 (Val.gtr hc97 rfl rfl) (zN ?_);obtain ⟨rfl, hc97, h⟩ | ⟨rfl, hc97, h⟩ := zI hc97 h
      ·refine zC rfl (zT rfl (zM R4 ?_));obtain ⟨hk99, h⟩ := chk_some h;refine zV R3 (Val.add rfl rfl hk99) (zA R4 (zN ?_));cases h;exact ⟨rfl, (), (sb .refl)⟩
      refine zD rfl (zK ?_);cases h;exact ⟨rfl, (), (sb .refl)⟩
     ·rintro doubts_2 _ h;refine zU rfl (zM R4 ?_);obtain ⟨c101, hc101⟩ := zY (doubts_2 > 3);refine zV R3 (Val.gtr hc101 rfl rfl) (zN ?_);obtain ⟨rfl, hc101, h⟩ | ⟨rfl, hc101, h⟩ := zI hc101 h
      ·refine zC rfl (zU rfl (zM R4 (zA R4 (zA R4 (zA R4 (zA R4 (zN (zR ?_))))))));cases h;exact ⟨ret_ne, ⟨ret_ne, ⟨ret_ne, ⟨rfl, _, rfl, ⟨(), rfl, (pk [98,98] rfl)⟩⟩⟩⟩⟩
      refine zD rfl (zK ?_);cases h;exact ⟨rfl, (), (sb (pk [1,98] rfl))⟩
    ·rintro doubts_2 _ h;refine zT rfl ?_;obtain ⟨hk103, h⟩ := chk_some h;refine zV R3 (Val.add rfl rfl hk103) (zM R4 (zN ?_));cases h;exact ⟨rfl, (), (sb .refl)⟩
   refine zD rfl (zE ?_);cases h;exact ⟨ex_ne, ⟨rfl, (), (sb .refl)⟩⟩
  ·rintro _ _ h;refine zU rfl (zV R3 (vW 0 [_,_,_] R5 R4) (zM R4 (zV R3 (Val.buildC (cs := [_, _, _, _, _]) (vs := [(_, _), (_, _)]) (ws := [(_, [_, _, _]), (_, [_])]) rfl rfl (CellsL.cons rfl (CellsL.cons (GS.cells (GSo true encL leaves31)).1 CellsL.nil)) rfl) (zQ 5 [_,_,_,_,_] R7 (fun b107=>zA R4 (zN ?_))))))
   show T _ _ _ _ _ _;apply T.joinA (r := r) (W := AV) (fun j w => ⟨[], [(2, .ptr b107 0 5)], ownL true w encI j :: .row b107 5 [iv (c_Book_Signed), v_c_Book_Gatherings, v_c_Items, (GSo true encL leaves31).v, w] :: .row b1 3 [iv (c_Book_Signed), v_c_Book_Gatherings, v_c_Items] :: C⟩) h
   ·intro j h;refine zU rfl (zM R4 (zV R3 (Val.len_gs rfl rfl) (zM R4 (zN (zB (T.nilown (u := encI.u) ?_))))))
    show T _ _ _ _ _ _;apply T.iter (r := j) (W := AV) (fun j w => ⟨[], [(1, .ptr b1 0 3), (2, .ptr b107 0 5), (109, iv ((leaves31.length : Int))), (110, iv (j.1))], ownL true w encI j.2 :: .row b107 5 [iv (c_Book_Signed), v_c_Book_Gatherings, v_c_Items, (GSo true encL leaves31).v, w] :: .row b1 3 [iv (c_Book_Signed), v_c_Book_Gatherings, v_c_Items] :: C⟩) (w0 := nilS) h
    ·exact (sb .refl)
    rintro ⟨x110, b107_mates⟩ v5 a h;unfold P_c_open_L4 at h;dsimp only at h;dsimp only;refine zU rfl ?_;obtain ⟨c111, hc111⟩ := zY (x110 < (leaves31.length : Int));refine zV R3 (Val.lss hc111 rfl rfl) (zN (zS ?_));obtain ⟨rfl, hc111, h⟩ | ⟨rfl, hc111, h⟩ := zI hc111 h
    ·refine zC rfl (zK ?_)
     show T _ _ _ _ _ _;apply T.joinA (r := a) (W := AV) (fun j w => ⟨[], [(1, .ptr b1 0 3), (2, .ptr b107 0 5), (109, iv ((leaves31.length : Int))), (110, iv (x110))], ownL true w encI j :: .row b107 5 [iv (c_Book_Signed), v_c_Book_Gatherings, v_c_Items, (GSo true encL leaves31).v, w] :: .row b1 3 [iv (c_Book_Signed), v_c_Book_Gatherings, v_c_Items] :: C⟩) h
     ·intro j h;refine zB (zU rfl (zM R4 (zA R4 (zN (zU rfl (zF 0 R6 (zV R3 (vW 2 [_,_] R5 R4) (zM R4 ?_))))))));obtain ⟨⟨mate117, e117⟩, hr117, h⟩ := andx_some h;dsimp only at h;obtain ⟨g_3, hgg_3, hrg_3⟩ := Rdl.reif (hs := ownL true v5 encI b107_mates :: .row b107 5 [iv (c_Book_Signed), v_c_Book_Gatherings, v_c_Items, (GSo true encL leaves31).v, v5] :: .row b1 3 [iv (c_Book_Signed), v_c_Book_Gatherings, v_c_Items] :: C) h_c_Book_Gatherings M3 (ReifL.flat encG_tr);refine TO.call rfl rfl rfl rfl rfl (orcL rfl aD) (.cons (.agg (.cons .lit (.cons (hrg_3 _) .nil))) (.cons .lit .nil)) (sem_of (w_q_Mate c_Book_Signed g_3 x110 _ (by try rw [hgg_3]; exact hr117))) (zM R4 (zX R5 (zX R5 (zA R4 (zA R4 (zN ?_))))))
      show T _ _ _ _ _ _;apply T.joinA (r := j) (W := Unit) (fun j w => ⟨[], [(1, .ptr b1 0 3), (2, .ptr b107 0 5), (16, iv (j)), (109, iv ((leaves31.length : Int))), (110, iv (x110))], ownL true v5 encI b107_mates :: .row b107 5 [iv (c_Book_Signed), v_c_Book_Gatherings, v_c_Items, (GSo true encL leaves31).v, v5] :: .row b1 3 [iv (c_Book_Signed), v_c_Book_Gatherings, v_c_Items] :: C⟩) h
      ·intro j h;refine zU rfl (zM R4 ?_);obtain ⟨c121, hc121⟩ := zY (¬ e117 = 0);refine zV R3 (Val.neq hc121 rfl rfl) (zN ?_);obtain ⟨rfl, hc121, h⟩ | ⟨rfl, hc121, h⟩ := zI hc121 h
       ·refine zC rfl (zT rfl (zA R4 (zN ?_)));cases h;exact ⟨rfl, (), (sb .refl)⟩
       refine zD rfl (zK ?_);cases h;exact ⟨rfl, (), (sb .refl)⟩
      ·rintro m _ h;refine zT rfl (zM R4 (zM R4 (zV R3 (Val.nil_ptr rfl) (zF 4 R6 (zL 1 R3 R6 (zM R4 (TO.build1 (en := encI) (a := m) rfl rfl rfl ⟨rfl, rfl⟩ ⟨_, rfl, rfl⟩ (by decide) (by decide) rfl rfl (fun v128=>?_))))))));obtain ⟨hk129, h⟩ := chk_some h;refine TO.eff rfl rfl rfl (Eff.append_own (b := 8) (en := encI) (l := b107_mates) (l2 := [m]) (p := 1) (q := 0) ⟨rfl, rfl, rfl, ⟨_, rfl, rfl⟩, by decide, by decide⟩ rfl rfl rfl rfl rfl rfl (flat_ones _) (by decide) hk129) ?_;rintro v129 _ rfl;refine zG (_::_::_::_::C) rfl (zV R3 (Val.nil_ptr rfl) (zF 4 R6 (TO.fact (own_cellS (p := 1) rfl) (fun hot5=>TO.eff0 rfl rfl (Eff.store_row (p := 2) (cv := [_]) (cells' := [_, _, _, _, _]) rfl rfl rfl rfl rfl hot5.1 rfl rfl (by first | rfl | (simp [GS.one, hot5.2]; done)) (by decide) rfl) ?_))));rintro _ rfl;refine zG (_::_::_::_::C) rfl (zN ?_);cases h;exact ⟨rfl, v129, (sb (pk [1,1,1,98] rfl))⟩
     ·rintro b107_mates_2 v5_2 h;refine zT rfl ?_;obtain ⟨hk132, h⟩ := chk_some h;refine zV R3 (Val.add rfl rfl hk132) (zM R4 (zN ?_));cases h;exact ⟨rfl, v5_2, (sb .refl)⟩
    refine zD rfl (zE ?_);cases h;exact ⟨ex_ne, ⟨rfl, v5, (sb .refl)⟩⟩
   ·rintro b107_mates v5 h;refine zU rfl (zM R4 (zA R4 (zA R4 (zA R4 (zA R4 (zN (zR ?_)))))));cases h;exact ⟨rfl, _, rfl, ⟨(b107, v5), rfl, (pk [1,0,98] rfl)⟩⟩
set_option maxRecDepth 10000 in
theorem tf_c_Faults {k : Nat} (hk : 5 ≤ k) {C : List Thing} {c_Book_Signed : Int} {v_c_Book_Gatherings : AV} {c_Book_Gatherings : List Gat} {v_c_Items : AV} {c_Items : List Item} (ht_c_Book_Gatherings : RdT encG v_c_Book_Gatherings c_Book_Gatherings) (ht_c_Items : RdT encIt v_c_Items c_Items) {r : (List Int) × Bool × (List Int) × Bool × Int × (List Int) × Bool × (List Int) × Bool × (List Int) × Bool × Int × Int} (h : P_c_Faults c_Book_Signed c_Book_Gatherings c_Items = some r) :
  TF (EL k) 19 [.agg [iv (c_Book_Signed), v_c_Book_Gatherings, v_c_Items]] C (RepF (fun (w : AV × AV × AV × AV × AV) => .tuple [.agg [w.1, w.2.1, iv r.2.2.2.2.1, w.2.2.1, w.2.2.2.1, w.2.2.2.2, iv r.2.2.2.2.2.2.2.2.2.2.2.1], iv r.2.2.2.2.2.2.2.2.2.2.2.2]) (fun (w : AV × AV × AV × AV × AV) => ownL r.2.1 w.1 encI r.1 :: ownL r.2.2.2.1 w.2.1 encI r.2.2.1 :: ownL r.2.2.2.2.2.2.1 w.2.2.1 encI r.2.2.2.2.2.1 :: ownL r.2.2.2.2.2.2.2.2.1 w.2.2.2.1 encI r.2.2.2.2.2.2.2.1 :: ownL r.2.2.2.2.2.2.2.2.2.2.1 w.2.2.2.2 encI r.2.2.2.2.2.2.2.2.2.1 :: C)) := by
 unfold P_c_Faults at h
 have h_c_Book_Gatherings : Rdl C encG v_c_Book_Gatherings c_Book_Gatherings := RdT.rdl ht_c_Book_Gatherings
 have h_c_Items : Rdl C encIt v_c_Items c_Items := RdT.rdl ht_c_Items;refine TF.enterG (fn := Go.Proofs.Try.f19) rfl rfl rfl rfl rfl (zU rfl (zQ 3 [_,_,_] R7 (fun b1=>zJ 7 [_,_,_,_,_,_,_] R7 (fun b2=>zA R4 (zN (T.scope (zU rfl (zV R3 (vW 1 [_,_,_] R5 R4) ?_))))))));obtain ⟨y12, hr12, h⟩ := andx_some h;cases y12 with
 | inl y12 =>
  obtain ⟨y12_2, y12_3, y12_4⟩ := y12;dsimp only at h;obtain ⟨hkn12, h⟩ := chk_some h;refine TO.callT (first := []) (cap := []) (vs := [.agg [iv (c_Book_Signed), v_c_Book_Gatherings, v_c_Items]]) rfl rfl rfl rfl rfl rfl (orcN rfl) (tf_c_open aD (Rdl.mono h_c_Book_Gatherings M2) (Rdl.mono h_c_Items M2) hr12) ?_;rintro _;refine zG (_::_::C) rfl (zM R4 (zX R5 (zX R5 (zX R5 (zX R5 (zJ 1 [_] R7 (fun b4=>TO.eff0 rfl rfl (Eff.store_row (p := 0) (cv := [_]) (cells' := [_]) rfl rfl rfl rfl rfl rfl rfl rfl aG (by decide) rfl) ?_)))))));rintro _ rfl;refine zG (_::_::_::C) rfl (zA R4 (zA R4 (zA R4 (zN (zS (zU rfl (zM R4 ?_)))))));obtain ⟨c18, hc18⟩ := zY (¬ y12_4 = 0);refine zV R3 (Val.neq hc18 rfl rfl) (zN ?_);obtain rfl : c18 = true := hc18.trans (decide_eq_true hkn12);refine zC rfl (zU rfl (zV R3 (vW 1 [_,_,_,_,_,_,_] R5 R4) (zM R4 (TO.eff0 rfl rfl (Eff.store_row (p := 1) (cv := [_, _, _, _, _, _, _]) (cells' := [_, _, _, _, _, _, _]) rfl rfl rfl rfl rfl rfl rfl rfl aG (by decide) rfl) ?_))));rintro _ rfl;refine zG (_::_::_::C) rfl (zA R4 (zN (T.nilown (u := encI.u) (T.nilown (u := encI.u) (T.nilown (u := encI.u) (T.nilown (u := encI.u) (T.nilown (u := encI.u) (zR ?_))))))));cases h;exact ⟨rfl, _, rfl, [_, _], ⟨⟨_, rfl, LoadR.rows (p := 6) (c := [_, _, _, _, _, _, _]) rfl ⟨⟨_, rfl, rfl⟩, rfl, by decide⟩ rfl rfl rfl⟩, ⟨rfl, trivial⟩⟩, ⟨(nilS, nilS, nilS, nilS, nilS), rfl, (pk [4,3,2,1,0,98,98,98] rfl)⟩⟩
 | inr y12 =>
  obtain ⟨y12_2, y12_3, y12_4, y12_5, y12_6, y12_7⟩ := y12;dsimp only at h;obtain ⟨hkn12, h⟩ := chk_some h;refine TO.callT (first := []) (cap := []) (vs := [.agg [iv (c_Book_Signed), v_c_Book_Gatherings, v_c_Items]]) rfl rfl rfl rfl rfl rfl (orcN rfl) (tf_c_open aD (Rdl.mono h_c_Book_Gatherings M2) (Rdl.mono h_c_Items M2) hr12) ?_;rintro ⟨w12, w12_2⟩;refine zG (_::_::_::_::C) rfl (zM R4 (zX R5 (zX R5 (zX R5 (zX R5 (zJ 1 [_] R7 (fun b4=>TO.eff0 rfl rfl (Eff.store_row (p := 0) (cv := [_]) (cells' := [_]) rfl rfl rfl rfl rfl rfl rfl rfl aG (by decide) rfl) ?_)))))));rintro _ rfl;refine zG (_::_::_::_::_::C) rfl (zA R4 (zA R4 (zA R4 (zN (zS (zU rfl (zM R4 ?_)))))));obtain ⟨c18, hc18⟩ := zY (¬ y12_7 = 0);refine zV R3 (Val.neq hc18 rfl rfl) (zN ?_);obtain rfl : c18 = false := hc18.trans (decide_eq_false (fun x => x hkn12));refine zD rfl (zK (zU rfl (zJ 1 [_] R7 (fun b7=>TO.eff0 rfl rfl (Eff.store_row (p := 0) (cv := [_]) (cells' := [_]) rfl rfl rfl rfl rfl rfl rfl rfl aG (by decide) rfl) ?_))));rintro _ rfl;refine zG (_::_::_::_::_::_::C) rfl (zN (zS (T.label ?_)))
  show T _ _ _ _ _ _;apply T.joinA (r := r) (W := Nat × AV × AV × AV × AV × AV) (fun j w => ⟨[w.1], [(2, .ptr b2 0 7)], .obj w.1 (.dfr true) :: ownL j.2.1 w.2.1 encI j.1 :: ownL true w.2.2.1 encI j.2.2.1 :: ownL true w.2.2.2.1 encI j.2.2.2.1 :: ownL true w.2.2.2.2.1 encI j.2.2.2.2.1 :: ownL true w.2.2.2.2.2 encI j.2.2.2.2.2.1 :: .row b7 1 [bv j.2.2.2.2.2.2.1] :: .row b2 7 [w.2.1, w.2.2.1, iv (j.2.2.2.2.2.2.2.1), w.2.2.2.1, w.2.2.2.2.1, w.2.2.2.2.2, iv (j.2.2.2.2.2.2.2.2)] :: .row b4 1 [.ptr w12 0 5] :: .row w12 5 [iv (y12_2), v_c_Book_Gatherings, v_c_Items, y12_3.v, w12_2] :: ownL true w12_2 encI y12_4 :: .row b1 3 [iv (c_Book_Signed), v_c_Book_Gatherings, v_c_Items] :: C⟩) h
  ·intro j h;refine zU rfl (zL 1 R3 R6 (TO.callIn rfl rfl rfl rfl rfl rfl (orcN rfl) (TF.enter (fn := Go.Proofs.Try.f39) rfl rfl rfl rfl rfl (zU rfl (zQ 1 [_] R7 (fun b1_2=>zA R4 (zN (zU rfl (zV R3 (Val.makeFunc rfl rfl) (zA R4 (zN (zR ?_))))))))))));refine ⟨rfl, _, rfl, ?_⟩;refine zN (zB (T.nilown (u := encI.u) (T.nilown (u := encI.u) (T.nilown (u := encI.u) (T.nilown (u := encI.u) (T.nilown (u := encI.u) ?_))))));obtain ⟨hkR1, h⟩ := chk_some h
   show T _ _ _ _ _ _;apply T.rangeP (r := j) (W := AV × AV × AV × AV × AV) (w0 := (nilS, nilS, nilS, nilS, nilS)) ArgT (fun (j : (List Int) × Bool × (List Int) × (List Int) × (List Int) × (List Int) × Bool × Int × Int) (w : AV × AV × AV × AV × AV) => [ownL j.2.1 w.1 encI j.1, ownL true w.2.1 encI j.2.2.1, ownL true w.2.2.1 encI j.2.2.2.1, ownL true w.2.2.2.1 encI j.2.2.2.2.1, ownL true w.2.2.2.2 encI j.2.2.2.2.2.1, .row b7 1 [bv j.2.2.2.2.2.2.1], .row b2 7 [w.1, w.2.1, iv (j.2.2.2.2.2.2.2.1), w.2.2.1, w.2.2.2.1, w.2.2.2.2, iv (j.2.2.2.2.2.2.2.2)]]) (.row b1_2 1 [.ptr w12 0 5] :: .row b4 1 [.ptr w12 0 5] :: .row w12 5 [iv (y12_2), v_c_Book_Gatherings, v_c_Items, y12_3.v, w12_2] :: ownL true w12_2 encI y12_4 :: .row b1 3 [iv (c_Book_Signed), v_c_Book_Gatherings, v_c_Items] :: C) h
   ·rfl
   ·rfl
   ·rfl
   ·exact (pk [0,0,0,0,0,1,4] rfl)
   ·exact tr_yields (List.mem_of_getElem? (i := 0) rfl) (List.mem_of_getElem? (i := 2) rfl) (Rdl.mono h_c_Items M5) hkR1
   ·rintro l1 d ⟨best_Leaves, z, best_Lost, best_Strange, best_Twice, best_Moved, first, best_Pieces, best_All⟩ ⟨v28, v23, v19, v16, v14⟩ t vs G F1 ans hmem harg hD hG h;unfold P_c_Faults_L1 at h;dsimp only at h;obtain ⟨v_t, rfl, rfl⟩ := harg
    have h_t : Rdl F1 encI v_t t := .inr ⟨false, hG _ (by simp)⟩
    have hCF : ∀ x ∈ C, x ∈ F1 := fun x hx => hD x (memS M4 x hx)
    replace h_c_Book_Gatherings := Rdl.mono h_c_Book_Gatherings hCF;replace h_c_Items := Rdl.mono h_c_Items hCF
    have hu1_t10 : Rdl F1 encI w12_2 y12_4 := .inr ⟨true, (hD _ (List.mem_of_getElem? (i := 3) rfl))⟩
    have hu1_t9 : Thing.row w12 5 [iv (y12_2), v_c_Book_Gatherings, v_c_Items, y12_3.v, w12_2] ∈ F1 := (hD _ (List.mem_of_getElem? (i := 2) rfl))
    have hu1_t1 : Thing.row b1 3 [iv (c_Book_Signed), v_c_Book_Gatherings, v_c_Items] ∈ F1 := (hD _ (List.mem_of_getElem? (i := 4) rfl))
    have hu1_t13 : Thing.row b1_2 1 [.ptr w12 0 5] ∈ F1 := (hD _ (List.mem_of_getElem? (i := 0) rfl))
    have hu1_t11 : Thing.row b4 1 [.ptr w12 0 5] ∈ F1 := (hD _ (List.mem_of_getElem? (i := 1) rfl));refine ⟨_, rfl, fun LR1 LB1 hLB1 => ?_⟩;refine T.things (hs' := LR1 :: ownL z v28 encI best_Leaves :: ownL true v23 encI best_Lost :: ownL true v19 encI best_Strange :: ownL true v16 encI best_Twice :: ownL true v14 encI best_Moved :: .row b7 1 [bv first] :: .row b2 7 [v28, v23, iv (best_Pieces), v19, v16, v14, iv (best_All)] :: F1) rfl (zT rfl (zA R4 (zN ?_)));refine ⟨rfl, 0, rfl, ?_⟩;refine T.things (hs' := LB1 :: ownL z v28 encI best_Leaves :: ownL true v23 encI best_Lost :: ownL true v19 encI best_Strange :: ownL true v16 encI best_Twice :: ownL true v14 encI best_Moved :: .row b7 1 [bv first] :: .row b2 7 [v28, v23, iv (best_Pieces), v19, v16, v14, iv (best_All)] :: F1) rfl (zB (zU rfl (zV R3 (Val.load_rowM hu1_t11 M8 ⟨_, rfl, rfl⟩ rfl rfl rfl) (zM R4 ?_))));obtain ⟨⟨y26, y26_2, y26_3, y26_4, y26_5, y26_6, y26_7⟩, hr26, h⟩ := andx_some h;dsimp only at h;refine TO.callT (first := []) (cap := []) (vs := [.ptr w12 0 5, v_t]) rfl rfl rfl rfl rfl rfl (orcN rfl) (tf_c_faults aD (Rdl.mono h_c_Book_Gatherings M8) (Rdl.mono h_c_Items M8) (Rdl.mono (Rdl.gs (C := F1) y12_3) M8) (Rdl.mono hu1_t10 M8) (M8 _ hu1_t9) (Rdl.mono h_t M8) hr26) ?_;rintro ⟨w26, w26_2, w26_3, w26_4, w26_5⟩;refine zG (_::_::_::_::_::_::_::_::_::_::_::_::_::F1) rfl (zJ 7 [_,_,_,_,_,_,_] R7 (fun b9=>TO.fact (own_cellS (p := 1) rfl) (fun hot44=>TO.fact (own_cellS (p := 2) rfl) (fun hot45=>TO.fact (own_cellS (p := 3) rfl) (fun hot46=>TO.fact (own_cellS (p := 4) rfl) (fun hot47=>TO.fact (own_cellS (p := 5) rfl) (fun hot48=>TO.eff0 rfl rfl (Eff.store_row (p := 0) (cv := [_, _, _, _, _, _, _]) (cells' := [_, _, _, _, _, _, _]) rfl rfl rfl rfl rfl rfl rfl rfl (by first | rfl | (simp [GS.one, hot44.2, hot45.2, hot46.2, hot47.2, hot48.2]; done) | (simp [GS.one, hot44.2, hot45.2, hot46.2, hot47.2, hot48.2]; (repeat' apply And.intro) <;> rfl)) (by decide) rfl) ?_)))))));rintro _ rfl;refine zG (_::_::_::_::_::_::_::_::_::_::_::_::_::_::F1) rfl (zN ?_)
    show T _ _ _ _ _ _;apply T.join (r := ans) (W := Unit) (fun j w => ⟨[], [(2, .ptr b2 0 7), (7, .ptr b7 0 1), (8, v_t), (9, .ptr b9 0 7)], .row b9 7 [w26, w26_2, iv (y26_3), w26_3, w26_4, w26_5, iv (y26_7)] :: ownL true w26 encI y26 :: ownL true w26_2 encI y26_2 :: ownL true w26_3 encI y26_4 :: ownL true w26_4 encI y26_5 :: ownL true w26_5 encI y26_6 :: LB1 :: ownL z v28 encI best_Leaves :: ownL true v23 encI best_Lost :: ownL true v19 encI best_Strange :: ownL true v16 encI best_Twice :: ownL true v14 encI best_Moved :: .row b7 1 [bv j] :: .row b2 7 [v28, v23, iv (best_Pieces), v19, v16, v14, iv (best_All)] :: F1⟩) h
    ·intro j h
     show T _ _ _ _ _ _;apply T.joinA (r := j) (W := Unit) (fun j w => ⟨[], [(2, .ptr b2 0 7), (7, .ptr b7 0 1), (8, v_t), (9, .ptr b9 0 7), (35, bv j.1)], .row b9 7 [w26, w26_2, iv (y26_3), w26_3, w26_4, w26_5, iv (y26_7)] :: ownL true w26 encI y26 :: ownL true w26_2 encI y26_2 :: ownL true w26_3 encI y26_4 :: ownL true w26_4 encI y26_5 :: ownL true w26_5 encI y26_6 :: LB1 :: ownL z v28 encI best_Leaves :: ownL true v23 encI best_Lost :: ownL true v19 encI best_Strange :: ownL true v16 encI best_Twice :: ownL true v14 encI best_Moved :: .row b7 1 [bv j.2] :: .row b2 7 [v28, v23, iv (best_Pieces), v19, v16, v14, iv (best_All)] :: F1⟩) h
     ·intro j h;refine zT rfl (zL 12 R3 R6 (zV R3 (Val.not rfl) (zM R4 ?_)));obtain ⟨rfl, h⟩ | ⟨rfl, h⟩ := zZ h
      ·refine zO R3 (zO R3 (zO R3 (zO R3 (zO R3 (zP R6 (zN ?_))))));cases h;exact ⟨rfl, (), (sb .refl)⟩
      refine zF 6 R6 (zL 0 R3 R6 (zF 6 R6 (zL 13 R3 R6 ?_)));obtain ⟨c34, hc34⟩ := zY (y26_7 ≥ best_All);refine zV R3 (Val.geq hc34 rfl rfl) (zP R6 (zN ?_));subst hc34;cases h;exact ⟨rfl, (), (sb .refl)⟩
     ·rintro ⟨x35, first_2⟩ _ h;dsimp only at h;dsimp only;obtain ⟨rfl, h⟩ | ⟨rfl, h⟩ := zZ h
      ·refine zC rfl (zE ?_);cases h;exact ⟨ex_ne, ⟨rfl, (v28, v23, v19, v16, v14), (pk [6,6,6,6,6,6,6,6,98,98,98,98,98,98] rfl)⟩⟩
      refine zD rfl (zK ?_);cases h;exact ⟨rfl, (), (sb .refl)⟩
    ·rintro first_2 _ h;refine zU rfl (zV R3 (vW 0 [_,_,_,_,_,_,_] R5 R4) (TO.fact (own_cellS (p := 1) rfl) (fun hot44=>TO.fact (own_cellS (p := 2) rfl) (fun hot45=>TO.fact (own_cellS (p := 3) rfl) (fun hot46=>TO.fact (own_cellS (p := 4) rfl) (fun hot47=>TO.fact (own_cellS (p := 5) rfl) (fun hot48=>TO.eff0 rfl rfl (Eff.store_row (p := 13) (cv := [_, _, _, _, _, _, _]) (cells' := [_, _, _, _, _, _, _]) rfl rfl rfl rfl rfl rfl rfl rfl (by first | rfl | (simp [GS.one, hot44.2, hot45.2, hot46.2, hot47.2, hot48.2]; done) | (simp [GS.one, hot44.2, hot45.2, hot46.2, hot47.2, hot48.2]; (repeat' apply And.intro) <;> rfl)) (by decide) rfl) ?_)))))));rintro _ rfl;refine zG (_::_::_::_::_::_::_::_::_::_::_::_::_::_::F1) rfl (TO.eff0 rfl rfl (Eff.store_row (p := 12) (cv := [_]) (cells' := [_]) rfl rfl rfl rfl rfl rfl rfl rfl aG (by decide) rfl) ?_);rintro _ rfl;refine zG (_::_::_::_::_::_::_::_::_::_::_::_::_::_::F1) rfl (zN (zU rfl (zM R4 (zV R3 (Val.len_l h_t (memS (memS (memS (memS (memS (memS M8)))))) rfl rfl) ?_))));obtain ⟨hk39, h⟩ := chk_some h;refine TO.makeE (en := encI) (0) (b := 8) rfl rfl rfl ⟨rfl, rfl⟩ rfl rfl rfl rfl rfl hk39 (by decide) (fun v39=>zF 0 R6 (TO.fact (own_cellS (p := 0) rfl) (fun hot50=>TO.eff0 rfl rfl (Eff.store_row (p := 14) (cv := [_]) (cells' := [_, _, _, _, _, _, _]) rfl rfl rfl rfl rfl hot50.1 rfl rfl (by first | rfl | (simp [GS.one, hot50.2]; done)) (by decide) rfl) ?_)));rintro _ rfl;refine zG (_::_::_::_::_::_::_::_::_::_::_::_::_::_::_::F1) rfl (zN (zT rfl (zF 0 R6 (zL 14 R3 R6 (zM R4 ?_)))));obtain ⟨hkcp, h⟩ := chk_some h;refine TO.eff rfl rfl rfl (Eff.copy_l (en := encI) (l := _) (p := 0) ⟨rfl, rfl⟩ (by decide) rfl rfl h_t (memS (memS (memS (memS (memS (memS (memS M8))))))) rfl rfl (flat_ones _) hkcp) ?_;rintro _ _ ⟨rfl, rfl⟩;refine zG (_::_::_::_::_::_::_::_::_::_::_::_::_::_::_::F1) rfl (zN ?_);cases h;exact ⟨rfl, (v39, w26_2, w26_3, w26_4, w26_5), (pk [7,0,2,2,2,2,7,7,98,98,98,98,98,98,98] rfl)⟩
   ·rintro d ⟨best_Leaves, z, best_Lost, best_Strange, best_Twice, best_Moved, first, best_Pieces, best_All⟩ ⟨v28, v23, v19, v16, v14⟩ h;dsimp only at h;cases h;exact ⟨rfl, (d, v28, v23, v19, v16, v14), (sb (pk [0,0,0,0,0,0,0,0,1,1,1,1,98] rfl))⟩
  ·rintro ⟨best_Leaves, z, best_Lost, best_Strange, best_Twice, best_Moved, first, best_Pieces, best_All⟩ ⟨iddfr1, v28, v23, v19, v16, v14⟩ h;dsimp only at h;dsimp only;refine zU rfl (zV R3 (vW 7 [_,_,_,_,_,_,_] R5 R4) (TO.fact (own_cellS (p := 1) rfl) (fun hot28=>TO.fact (own_cellS (p := 2) rfl) (fun hot23=>TO.fact (own_cellS (p := 3) rfl) (fun hot19=>TO.fact (own_cellS (p := 4) rfl) (fun hot16=>TO.fact (own_cellS (p := 5) rfl) (fun hot14=>TO.eff0 rfl rfl (Eff.store_row (p := 7) (cv := [_, _, _, _, _, _, _]) (cells' := [_, _, _, _, _, _, _]) rfl rfl rfl rfl rfl rfl rfl rfl (by first | rfl | (simp [GS.one, hot28.2, hot23.2, hot19.2, hot16.2, hot14.2]; done) | (simp [GS.one, hot28.2, hot23.2, hot19.2, hot16.2, hot14.2]; (repeat' apply And.intro) <;> rfl)) (by decide) rfl) ?_)))))));rintro _ rfl;refine zG (_::_::_::_::_::_::_::_::_::_::_::_::C) rfl (zA R4 (zN (zR ?_)));cases h;exact ⟨rfl, _, ⟨0, rfl, rfl⟩, [_, _], ⟨⟨_, rfl, LoadR.rows (p := 6) (c := [_, _, _, _, _, _, _]) rfl ⟨⟨_, rfl, rfl⟩, rfl, by decide⟩ rfl rfl rfl⟩, ⟨rfl, trivial⟩⟩, ⟨(v28, v23, v19, v16, v14), rfl, (pk [0,0,0,0,0,98,98,98,98,98,98] rfl)⟩⟩
theorem w_c_Faults (c_Book_Signed : Int) (c_Book_Gatherings : GS encG) (c_Items : GS encIt) (r : (List Int) × Bool × (List Int) × Bool × Int × (List Int) × Bool × (List Int) × Bool × (List Int) × Bool × Int × Int) (h : P_c_Faults c_Book_Signed c_Book_Gatherings.l c_Items.l = some r) : Comes (EL 5) 19 [.agg [iv (c_Book_Signed), c_Book_Gatherings.v, c_Items.v]] (.tuple [.agg [(GSo r.2.1 encI r.1).v, (GSo r.2.2.2.1 encI r.2.2.1).v, iv r.2.2.2.2.1, (GSo r.2.2.2.2.2.2.1 encI r.2.2.2.2.2.1).v, (GSo r.2.2.2.2.2.2.2.2.1 encI r.2.2.2.2.2.2.2.1).v, (GSo r.2.2.2.2.2.2.2.2.2.2.1 encI r.2.2.2.2.2.2.2.2.2.1).v, iv r.2.2.2.2.2.2.2.2.2.2.2.1], iv r.2.2.2.2.2.2.2.2.2.2.2.2]) :=
 TF.run (tf_c_Faults (Nat.le_refl _) (RdT.gs c_Book_Gatherings) (RdT.gs c_Items) h) fun w => (.tuple (.cons (.agg (.cons (.ownL (en := encI) (p := 0) rfl (.lits encI_lits)) (.cons (.ownL (en := encI) (p := 1) rfl (.lits encI_lits)) (.cons .lit (.cons (.ownL (en := encI) (p := 2) rfl (.lits encI_lits)) (.cons (.ownL (en := encI) (p := 3) rfl (.lits encI_lits)) (.cons (.ownL (en := encI) (p := 4) rfl (.lits encI_lits)) (.cons .lit .nil)))))))) (.cons .lit .nil)))
end Go.Am.Ythckcbfijdambaa
end
section
namespace Go.Am
set_option linter.unusedVariables false
end Go.Am
end
section
namespace Go.Am.Ythckcbfijdambaa
open Go.Am Go.RowKit
set_option linter.unusedVariables false
set_option linter.unusedSimpArgs false
end Go.Am.Ythckcbfijdambaa
end
section
namespace Go.Am
set_option linter.unusedVariables false
noncomputable def P_r4_Check_L1 (c_Items : List Item) (all33 : List Leaf) : Int → Option (Stp Int (Ex Unit (Int × Int × Int))) := fun i =>
  if i < (c_Items.length : Int) then
    el c_Items i fun a49 =>
    andx (P_r4_item a49.could.l (all33.length : Int)) fun y52 =>
      if ¬ y52 = 0 then
        some (Stp.dn (Ex.rt (2, i, y52)))
      else
        chk (I64 (i + 1)) (
          some (Stp.ag (i + 1)))
  else
    some (Stp.dn (Ex.nx ()))
noncomputable def P_r4_Check_L2 (c_Items : List Item) : (Int × Int) → Option (Stp (Int × Int) (Ex Unit (Int × Int × Int))) := fun (doubts, i) =>
  if i < (c_Items.length : Int) then
    seqx (
      andx (
        el c_Items i fun a67 =>
        if (a67.could.l.length : Int) > 1 then
          chk (I64 (doubts + 1)) (
            some (doubts + 1))
        else
          some doubts) fun doubts_2 =>
        if doubts_2 > 3 then
          some (Ex.rt (Stp.dn (Ex.rt (3, i, 3))))
        else
          some (Ex.nx doubts_2)) fun doubts_2 =>
      chk (I64 (i + 1)) (
        some (Stp.ag (doubts_2, (i + 1))))
  else
    some (Stp.dn (Ex.nx ()))
noncomputable def P_r4_Check (c_Book_Signed : Int) (c_Book_Gatherings : List Gat) (c_Items : List Item) : Option (Int × Int × Int) :=
  andx (P_r1_Check c_Book_Signed c_Book_Gatherings) fun (part15, at_15, e15) =>
    andx (
      andx (
        if e15 = 0 then
          andx (P_r1_All c_Book_Signed c_Book_Gatherings) fun all24 =>
            some (decide ((all24.length : Int) > 120))
        else
          some false) fun x27 =>
        if x27 = true then
          some 3
        else
          some e15) fun e =>
      if ¬ e = 0 then
        some (1, 0, e)
      else
        andx (P_r1_All c_Book_Signed c_Book_Gatherings) fun all33 =>
          if (c_Items.length : Int) > 120 then
            some (2, 0, 3)
          else
            seqx (
              iter (P_r4_Check_L1 c_Items all33) 0) fun _ =>
              seqx (
                iter (P_r4_Check_L2 c_Items) (0, 0)) fun _ =>
                some (0, 0, 0)
end Go.Am
end
section
namespace Go.Am.Ythckcbfijdambaa
open Go.Am Go.RowKit
set_option linter.unusedVariables false
set_option linter.unusedSimpArgs false
set_option maxRecDepth 10000 in
theorem tf_r4_Check {k : Nat} (hk : 4 ≤ k) {C : List Thing} {c_Book_Signed : Int} {v_c_Book_Gatherings : AV} {c_Book_Gatherings : List Gat} {v_c_Items : AV} {c_Items : List Item} (ht_c_Book_Gatherings : RdT encG v_c_Book_Gatherings c_Book_Gatherings) (ht_c_Items : RdT encIt v_c_Items c_Items) {r : Int × Int × Int} (h : P_r4_Check c_Book_Signed c_Book_Gatherings c_Items = some r) :
  TF (EL k) 41 [.agg [iv (c_Book_Signed), v_c_Book_Gatherings, v_c_Items]] C (RepF (fun (w : Unit) => .tuple [iv r.1, iv r.2.1, iv r.2.2]) (fun (w : Unit) => C)) := by
 unfold P_r4_Check at h
 have h_c_Book_Gatherings : Rdl C encG v_c_Book_Gatherings c_Book_Gatherings := RdT.rdl ht_c_Book_Gatherings
 have h_c_Items : Rdl C encIt v_c_Items c_Items := RdT.rdl ht_c_Items;refine TF.enter (fn := Go.Proofs.Try.f41) rfl rfl rfl rfl rfl (zU rfl (zQ 3 [_,_,_] R7 (fun b1=>zA R4 (zA R4 (zA R4 (zN (zU rfl (zF 0 R6 (zV R3 (vW 0 [_,_] R5 R4) ?_)))))))));obtain ⟨⟨part15, at_15, e15⟩, hr15, h⟩ := andx_some h;dsimp only at h;obtain ⟨g, hgg, hrg⟩ := Rdl.reif (hs := .row b1 3 [iv (c_Book_Signed), v_c_Book_Gatherings, v_c_Items] :: C) h_c_Book_Gatherings M1 (ReifL.flat encG_tr);refine TO.call rfl rfl rfl rfl rfl (orcL rfl aD) (.cons (.agg (.cons .lit (.cons (hrg _) .nil))) .nil) (sem_of (w_r1_Check c_Book_Signed g _ (by try rw [hgg]; exact hr15))) (zM R4 (zX R5 (zX R5 (zX R5 (zA R4 (zA R4 (zA R4 (zN ?_))))))))
 show T _ _ _ _ _ _;apply T.joinA (r := r) (W := Unit) (fun j w => ⟨[], [(1, .ptr b1 0 3), (7, iv (j))], .row b1 3 [iv (c_Book_Signed), v_c_Book_Gatherings, v_c_Items] :: C⟩) h
 ·intro j h
  show T _ _ _ _ _ _;apply T.joinA (r := j) (W := Unit) (fun j w => ⟨[], [(1, .ptr b1 0 3), (7, iv (e15)), (27, bv j)], .row b1 3 [iv (c_Book_Signed), v_c_Book_Gatherings, v_c_Items] :: C⟩) h
  ·intro j h;refine zT rfl (zM R4 ?_);obtain ⟨c20, hc20⟩ := zY (e15 = 0);refine zV R3 (Val.eql hc20 rfl rfl) (zM R4 ?_);obtain ⟨rfl, hc20, h⟩ | ⟨rfl, hc20, h⟩ := zI hc20 h
   ·refine zF 0 R6 (zV R3 (vW 0 [_,_] R5 R4) ?_);obtain ⟨all24, hr24, h⟩ := andx_some h;obtain ⟨g_2, hgg_2, hrg_2⟩ := Rdl.reif (hs := .row b1 3 [iv (c_Book_Signed), v_c_Book_Gatherings, v_c_Items] :: C) h_c_Book_Gatherings M1 (ReifL.flat encG_tr);refine TO.call rfl rfl rfl rfl rfl (orcL rfl aD) (.cons (.agg (.cons .lit (.cons (hrg_2 _) .nil))) .nil) (sem_of (w_r1_All c_Book_Signed g_2 _ (by try rw [hgg_2]; exact hr24))) (zV R3 (Val.len_gs rfl rfl) ?_);obtain ⟨c26, hc26⟩ := zY ((all24.length : Int) > 120);refine zV R3 (Val.gtr hc26 rfl rfl) (zP R6 (zN ?_));subst hc26;cases h;exact ⟨rfl, (), (sb .refl)⟩
   refine zO R3 (zO R3 (zO R3 (zO R3 (zO R3 (zP R6 (zN ?_))))));cases h;exact ⟨rfl, (), (sb .refl)⟩
  ·rintro x27 _ h;obtain ⟨rfl, h⟩ | ⟨rfl, h⟩ := zZ h
   ·refine zC rfl (zT rfl (zA R4 (zN ?_)));cases h;exact ⟨rfl, (), (sb .refl)⟩
   refine zD rfl (zK ?_);cases h;exact ⟨rfl, (), (sb .refl)⟩
 ·rintro e _ h;refine zS (zU rfl (zM R4 ?_));obtain ⟨c29, hc29⟩ := zY (¬ e = 0);refine zV R3 (Val.neq hc29 rfl rfl) (zN ?_);obtain ⟨rfl, hc29, h⟩ | ⟨rfl, hc29, h⟩ := zI hc29 h
  ·refine zC rfl (zU rfl (zM R4 (zA R4 (zA R4 (zA R4 (zN (zR ?_)))))));cases h;exact ⟨rfl, _, rfl, ⟨(), rfl, (pk [98] rfl)⟩⟩
  refine zD rfl (zK (zU rfl (zF 0 R6 (zV R3 (vW 0 [_,_] R5 R4) ?_))));obtain ⟨all33, hr33, h⟩ := andx_some h;obtain ⟨g_2, hgg_2, hrg_2⟩ := Rdl.reif (hs := .row b1 3 [iv (c_Book_Signed), v_c_Book_Gatherings, v_c_Items] :: C) h_c_Book_Gatherings M1 (ReifL.flat encG_tr);refine TO.call rfl rfl rfl rfl rfl (orcL rfl aD) (.cons (.agg (.cons .lit (.cons (hrg_2 _) .nil))) .nil) (sem_of (w_r1_All c_Book_Signed g_2 _ (by try rw [hgg_2]; exact hr33))) (zV R3 (Val.len_gs rfl rfl) (zA R4 (zN (zS (zU rfl (zF 2 R6 (zL 0 R3 R6 (zV R3 (Val.len_l h_c_Items M1 rfl rfl) ?_))))))));obtain ⟨c38, hc38⟩ := zY ((c_Items.length : Int) > 120);refine zV R3 (Val.gtr hc38 rfl rfl) (zN ?_);obtain ⟨rfl, hc38, h⟩ | ⟨rfl, hc38, h⟩ := zI hc38 h
  ·refine zC rfl (zU rfl (zA R4 (zA R4 (zA R4 (zN (zR ?_))))));cases h;exact ⟨rfl, _, rfl, ⟨(), rfl, (pk [98] rfl)⟩⟩
  refine zD rfl (zK ?_)
  show T _ _ _ _ _ _;apply T.join (r := r) (W := Unit) (fun j w => ⟨[], [(1, .ptr b1 0 3)], .row b1 3 [iv (c_Book_Signed), v_c_Book_Gatherings, v_c_Items] :: C⟩) h
  ·intro j h;refine zU rfl (zA R4 (zN (zB ?_)))
   show T _ _ _ _ _ _;apply T.iter (r := j) (W := Unit) (fun j w => ⟨[], [(1, .ptr b1 0 3), (8, iv ((all33.length : Int))), (9, iv (j))], .row b1 3 [iv (c_Book_Signed), v_c_Book_Gatherings, v_c_Items] :: C⟩) (w0 := ()) h
   ·exact (sb .refl)
   rintro i _ a h;unfold P_r4_Check_L1 at h;refine zS (zU rfl (zM R4 (zF 2 R6 (zL 0 R3 R6 (zV R3 (Val.len_l h_c_Items M1 rfl rfl) ?_)))));obtain ⟨c43, hc43⟩ := zY (i < (c_Items.length : Int));refine zV R3 (Val.lss hc43 rfl rfl) (zN ?_);obtain ⟨rfl, hc43, h⟩ | ⟨rfl, hc43, h⟩ := zI hc43 h
   ·refine zC rfl (zK (zS (zB (zU rfl (zF 2 R6 (zL 0 R3 R6 (zM R4 ?_)))))));obtain ⟨a49, hia49, ea49, h⟩ := el_some h;refine TO.fact (rdl_at h_c_Items M1 hia49 ea49) (fun hp=>?_);obtain ⟨pa49, hpa49, hva49⟩ := hp;refine zV R3 (hva49 ⟨rfl, rfl⟩ rfl rfl) (zV R3 (Val.load_es (c := [_]) hpa49 M1 ⟨⟨_, rfl, rfl⟩, rfl, by decide⟩ rfl rfl rfl) (zM R4 ?_));obtain ⟨y52, hr52, h⟩ := andx_some h;refine TO.callT (first := []) (cap := []) (vs := [.agg [a49.could.v], iv ((all33.length : Int))]) rfl rfl rfl rfl rfl rfl (orcN rfl) (tf_r4_item aD (Rdl.mono (Rdl.gs (C := C) a49.could) M1) hr52) ?_;rintro _;refine zG (_::C) rfl (zA R4 (zN (zU rfl (zM R4 ?_))));obtain ⟨c54, hc54⟩ := zY (¬ y52 = 0);refine zV R3 (Val.neq hc54 rfl rfl) (zN ?_);obtain ⟨rfl, hc54, h⟩ | ⟨rfl, hc54, h⟩ := zI hc54 h
    ·refine zC rfl (zU rfl (zM R4 (zM R4 (zA R4 (zA R4 (zA R4 (zN (zR ?_))))))));cases h;exact ⟨ret_ne, ⟨ret_ne, ⟨rfl, _, rfl, ⟨(), rfl, (pk [98] rfl)⟩⟩⟩⟩
    refine zD rfl (zK (zT rfl (zM R4 ?_)));obtain ⟨hk45, h⟩ := chk_some h;refine zV R3 (Val.add rfl rfl hk45) (zA R4 (zN ?_));cases h;exact ⟨rfl, (), (sb .refl)⟩
   refine zD rfl (zE ?_);cases h;exact ⟨ex_ne, ⟨rfl, (), (sb .refl)⟩⟩
  ·rintro _ _ h;refine zU rfl (zA R4 (zN ?_))
   show T _ _ _ _ _ _;apply T.join (r := r) (W := Unit) (fun j w => ⟨[], [], .row b1 3 [iv (c_Book_Signed), v_c_Book_Gatherings, v_c_Items] :: C⟩) h
   ·intro j h;refine zU rfl (zA R4 (zN (zB ?_)))
    show T _ _ _ _ _ _;apply T.iter (r := j) (W := Unit) (fun j w => ⟨[], [(1, .ptr b1 0 3), (10, iv (j.1)), (11, iv (j.2))], .row b1 3 [iv (c_Book_Signed), v_c_Book_Gatherings, v_c_Items] :: C⟩) (w0 := ()) h
    ·exact (sb .refl)
    rintro ⟨doubts, i⟩ _ a h;unfold P_r4_Check_L2 at h;dsimp only at h;dsimp only;refine zS (zU rfl (zM R4 (zF 2 R6 (zL 0 R3 R6 (zV R3 (Val.len_l h_c_Items M1 rfl rfl) ?_)))));obtain ⟨c61, hc61⟩ := zY (i < (c_Items.length : Int));refine zV R3 (Val.lss hc61 rfl rfl) (zN ?_);obtain ⟨rfl, hc61, h⟩ | ⟨rfl, hc61, h⟩ := zI hc61 h
    ·refine zC rfl (zK ?_)
     show T _ _ _ _ _ _;apply T.join (r := a) (W := Unit) (fun j w => ⟨[], [(1, .ptr b1 0 3), (10, iv (j)), (11, iv (i))], .row b1 3 [iv (c_Book_Signed), v_c_Book_Gatherings, v_c_Items] :: C⟩) h
     ·intro j h;refine zB ?_
      show T _ _ _ _ _ _;apply T.joinA (r := j) (W := Unit) (fun j w => ⟨[], [(1, .ptr b1 0 3), (10, iv (j)), (11, iv (i))], .row b1 3 [iv (c_Book_Signed), v_c_Book_Gatherings, v_c_Items] :: C⟩) h
      ·intro j h;refine zU rfl (zF 2 R6 (zL 0 R3 R6 (zM R4 ?_)));obtain ⟨a67, hia67, ea67, h⟩ := el_some h;refine TO.fact (rdl_at h_c_Items M1 hia67 ea67) (fun hp=>?_);obtain ⟨pa67, hpa67, hva67⟩ := hp;refine zV R3 (hva67 ⟨rfl, rfl⟩ rfl rfl) (zV R3 (Val.faddr_e (fo := 0) hpa67 rfl rfl rfl) (zV R3 (Val.load_e (PtE.add hpa67 (by decide)) M1 ⟨_, rfl, rfl⟩ rfl rfl) (zV R3 (Val.len_gs rfl rfl) ?_)));obtain ⟨c71, hc71⟩ := zY ((a67.could.l.length : Int) > 1);refine zV R3 (Val.gtr hc71 rfl rfl) (zN ?_);obtain ⟨rfl, hc71, h⟩ | ⟨rfl, hc71, h⟩ := zI hc71 h
       ·refine zC rfl (zT rfl (zM R4 ?_));obtain ⟨hk73, h⟩ := chk_some h;refine zV R3 (Val.add rfl rfl hk73) (zA R4 (zN ?_));cases h;exact ⟨rfl, (), (sb .refl)⟩
       refine zD rfl (zK ?_);cases h;exact ⟨rfl, (), (sb .refl)⟩
      ·rintro doubts_2 _ h;refine zU rfl (zM R4 ?_);obtain ⟨c75, hc75⟩ := zY (doubts_2 > 3);refine zV R3 (Val.gtr hc75 rfl rfl) (zN ?_);obtain ⟨rfl, hc75, h⟩ | ⟨rfl, hc75, h⟩ := zI hc75 h
       ·refine zC rfl (zU rfl (zM R4 (zA R4 (zA R4 (zA R4 (zN (zR ?_)))))));cases h;exact ⟨ret_ne, ⟨ret_ne, ⟨ret_ne, ⟨rfl, _, rfl, ⟨(), rfl, (pk [98] rfl)⟩⟩⟩⟩⟩
       refine zD rfl (zK ?_);cases h;exact ⟨rfl, (), (sb .refl)⟩
     ·rintro doubts_2 _ h;refine zT rfl (zM R4 ?_);obtain ⟨hk63, h⟩ := chk_some h;refine zV R3 (Val.add rfl rfl hk63) (zA R4 (zN ?_));cases h;exact ⟨rfl, (), (sb .refl)⟩
    refine zD rfl (zE ?_);cases h;exact ⟨ex_ne, ⟨rfl, (), (sb .refl)⟩⟩
   ·rintro _ _ h;refine zU rfl (zA R4 (zA R4 (zA R4 (zN (zR ?_)))));cases h;exact ⟨rfl, _, rfl, ⟨(), rfl, (pk [98] rfl)⟩⟩
theorem w_r4_Check (c_Book_Signed : Int) (c_Book_Gatherings : GS encG) (c_Items : GS encIt) (r : Int × Int × Int) (h : P_r4_Check c_Book_Signed c_Book_Gatherings.l c_Items.l = some r) : Comes (EL 4) 41 [.agg [iv (c_Book_Signed), c_Book_Gatherings.v, c_Items.v]] (.tuple [iv r.1, iv r.2.1, iv r.2.2]) :=
 TF.run (tf_r4_Check (Nat.le_refl _) (RdT.gs c_Book_Gatherings) (RdT.gs c_Items) h) fun w => (.tuple (.cons .lit (.cons .lit (.cons .lit .nil))))
end Go.Am.Ythckcbfijdambaa
end
section
namespace Go.Am
set_option linter.unusedVariables false
end Go.Am
end
section
namespace Go.Am.Ythckcbfijdambaa
open Go.Am Go.RowKit
set_option linter.unusedVariables false
set_option linter.unusedSimpArgs false
end Go.Am.Ythckcbfijdambaa
end
section
namespace Go.Am
set_option linter.unusedVariables false
end Go.Am
end
section
namespace Go.Am.Ythckcbfijdambaa
open Go.Am Go.RowKit
set_option linter.unusedVariables false
set_option linter.unusedSimpArgs false
end Go.Am.Ythckcbfijdambaa
end
section
namespace Go.Am
set_option linter.unusedVariables false
noncomputable def P_l_valid (c_Book_Signed : Int) (c_Book_Gatherings : List Gat) (c_Items : List Item) : Option Bool :=
 andx (P_r4_Check c_Book_Signed c_Book_Gatherings c_Items) fun (y8, y8_2, y8_3) =>
  some (decide (y8_3 = 0))
end Go.Am
end
section
namespace Go.Am.Ythckcbfijdambaa
open Go.Am Go.RowKit
set_option linter.unusedVariables false
set_option linter.unusedSimpArgs false
set_option maxRecDepth 10000 in
theorem tf_l_valid {k : Nat} (hk : 5 ≤ k) {C : List Thing} {c_Book_Signed : Int} {v_c_Book_Gatherings : AV} {c_Book_Gatherings : List Gat} {v_c_Items : AV} {c_Items : List Item} (ht_c_Book_Gatherings : RdT encG v_c_Book_Gatherings c_Book_Gatherings) (ht_c_Items : RdT encIt v_c_Items c_Items) {r : Bool} (h : P_l_valid c_Book_Signed c_Book_Gatherings c_Items = some r) :
  TF (EL k) 29 [.agg [iv (c_Book_Signed), v_c_Book_Gatherings, v_c_Items]] C (RepF (fun (w : Unit) => bv r) (fun (w : Unit) => C)) := by
 unfold P_l_valid at h
 have h_c_Book_Gatherings : Rdl C encG v_c_Book_Gatherings c_Book_Gatherings := RdT.rdl ht_c_Book_Gatherings
 have h_c_Items : Rdl C encIt v_c_Items c_Items := RdT.rdl ht_c_Items;refine TF.enter (fn := Go.Proofs.Try.f29) rfl rfl rfl rfl rfl (zU rfl (zQ 3 [_,_,_] R7 (fun b1=>zA R4 (zN (zU rfl (zV R3 (vW 0 [_,_,_] R5 R4) ?_))))));obtain ⟨⟨y8, y8_2, y8_3⟩, hr8, h⟩ := andx_some h;dsimp only at h;obtain ⟨g, hgg, hrg⟩ := Rdl.reif (hs := .row b1 3 [iv (c_Book_Signed), v_c_Book_Gatherings, v_c_Items] :: C) h_c_Book_Gatherings M1 (ReifL.flat encG_tr);obtain ⟨g_2, hgg_2, hrg_2⟩ := Rdl.reif (hs := .row b1 3 [iv (c_Book_Signed), v_c_Book_Gatherings, v_c_Items] :: C) h_c_Items M1 (ReifL.flat encIt_tr);refine TO.call rfl rfl rfl rfl rfl (orcL rfl aD) (.cons (.agg (.cons .lit (.cons (hrg _) (.cons (hrg_2 _) .nil)))) .nil) (sem_of (w_r4_Check c_Book_Signed g g_2 _ (by try rw [hgg]; try rw [hgg_2]; exact hr8))) (zM R4 (zX R5 (zX R5 (zX R5 (zA R4 (zA R4 (zA R4 (zN (zU rfl (zM R4 ?_))))))))));obtain ⟨c13, hc13⟩ := zY (y8_3 = 0);refine zV R3 (Val.eql hc13 rfl rfl) (zA R4 (zN (zR ?_)));subst hc13;cases h;exact ⟨rfl, _, rfl, ⟨(), rfl, (pk [98] rfl)⟩⟩
theorem w_l_valid (c_Book_Signed : Int) (c_Book_Gatherings : GS encG) (c_Items : GS encIt) (r : Bool) (h : P_l_valid c_Book_Signed c_Book_Gatherings.l c_Items.l = some r) : Comes (EL 5) 29 [.agg [iv (c_Book_Signed), c_Book_Gatherings.v, c_Items.v]] (bv r) :=
 TF.run (tf_l_valid (Nat.le_refl _) (RdT.gs c_Book_Gatherings) (RdT.gs c_Items) h) fun w => .lit
end Go.Am.Ythckcbfijdambaa
end
section
namespace Go.Am
set_option linter.unusedVariables false
noncomputable def P_c_Bound1 (a_ : Int) (b : Int) (p2_Leaves : List Int) (p2_Lost : List Int) (p2_Pieces : Int) (p2_Strange : List Int) (p2_Twice : List Int) (p2_Moved : List Int) (p2_All : Int) : Option Int :=
  el p2_Leaves a_ fun a9 =>
  el p2_Leaves b fun a14 =>
  chk (I64 (a9 - a14)) (
    some (a9 - a14))
end Go.Am
end
section
namespace Go.Am.Ythckcbfijdambaa
open Go.Am Go.RowKit
set_option linter.unusedVariables false
set_option linter.unusedSimpArgs false
set_option maxRecDepth 10000 in
theorem tf_c_Bound1 {C : List Thing} {a_ : Int} {b : Int} {id_p2 : Nat} {v_p2_Leaves : AV} {p2_Leaves : List Int} {v_p2_Lost : AV} {p2_Lost : List Int} {p2_Pieces : Int} {v_p2_Strange : AV} {p2_Strange : List Int} {v_p2_Twice : AV} {p2_Twice : List Int} {v_p2_Moved : AV} {p2_Moved : List Int} {p2_All : Int} (h_p2_Leaves : Rdl C encI v_p2_Leaves p2_Leaves) (h_p2_Lost : Rdl C encI v_p2_Lost p2_Lost) (h_p2_Strange : Rdl C encI v_p2_Strange p2_Strange) (h_p2_Twice : Rdl C encI v_p2_Twice p2_Twice) (h_p2_Moved : Rdl C encI v_p2_Moved p2_Moved) (h_p2 : Thing.row id_p2 7 [v_p2_Leaves, v_p2_Lost, iv (p2_Pieces), v_p2_Strange, v_p2_Twice, v_p2_Moved, iv (p2_All)] ∈ C) {r : Int} (h : P_c_Bound1 a_ b p2_Leaves p2_Lost p2_Pieces p2_Strange p2_Twice p2_Moved p2_All = some r) :
  Still env0 51 [iv (a_), iv (b), .ptr id_p2 0 7] C (iv r) := by
 unfold P_c_Bound1 at h;refine Still.enter (fn := Go.Proofs.Try.f51) rfl rfl rfl rfl rfl ?_;refine CS.seq ?_;refine CS.text rfl ?_;refine zA R4 (zN ?_);refine CS.seq ?_;refine CS.draw (fun v => sameC_refl v) (l1 := [0, 1, 2, 3, 4, 5, 6, 7, 8, 9, 10, 11]) (l2 := []) (by kernel_rfl) (by kernel_rfl) ?_;refine zF 0 R6 (zV R3 (Val.load_rowM h_p2 mem0 ⟨_, rfl, rfl⟩ rfl rfl rfl) (zM R4 ?_));obtain ⟨a9, hia9, ea9, h⟩ := el_some h;refine TO.fact (rdl_at h_p2_Leaves mem0 hia9 ea9) (fun hp=>?_);obtain ⟨pa9, hpa9, hva9⟩ := hp;refine zV R3 (hva9 ⟨rfl, rfl⟩ rfl rfl) (zV R3 (Val.load_e hpa9 mem0 ⟨_, rfl, rfl⟩ rfl rfl) (zF 0 R6 (zV R3 (Val.load_rowM h_p2 mem0 ⟨_, rfl, rfl⟩ rfl rfl rfl) (zM R4 ?_))));obtain ⟨a14, hia14, ea14, h⟩ := el_some h;refine TO.fact (rdl_at h_p2_Leaves mem0 hia14 ea14) (fun hp=>?_);obtain ⟨pa14, hpa14, hva14⟩ := hp;refine zV R3 (hva14 ⟨rfl, rfl⟩ rfl rfl) (zV R3 (Val.load_e hpa14 mem0 ⟨_, rfl, rfl⟩ rfl rfl) ?_);obtain ⟨hk16, h⟩ := chk_some h;refine zV R3 (Val.sub rfl rfl hk16) (zA R4 (zN ?_));refine CS.ret ?_;cases h;exact ⟨rfl, _, rfl, rfl⟩
end Go.Am.Ythckcbfijdambaa
end
section
namespace Go.Am
set_option linter.unusedVariables false
theorem keyAt_get {t : List Int} {x : Int} (h0 : 0 ≤ x) (h1 : x < (t.length : Int)) : t[x.toNat]? = some (keyAt t x) := by
 unfold keyAt;rw [List.getElem?_eq_getElem (show x.toNat < t.length by omega)]
theorem c_Bound1_ok {t l lo st tw mv : List Int} {pc al x y : Int} (h : SortOk t l) (a1 : 0 ≤ x) (a2 : x < (t.length : Int)) (a3 : 0 ≤ y) (a4 : y < (t.length : Int)) : P_c_Bound1 x y t lo pc st tw mv al = some (keyAt t x - keyAt t y) := by
 have h1 := h.2.2.2 _ (List.mem_of_getElem? (keyAt_get a1 a2))
 have h2 := h.2.2.2 _ (List.mem_of_getElem? (keyAt_get a3 a4));unfold P_c_Bound1 el;rw [if_pos a1, keyAt_get a1 a2];simp only;rw [if_pos a3, keyAt_get a3 a4];simp only;rw [chk_pos (by unfold I64; omega)]
end Go.Am
end
section
namespace Go.Am
set_option linter.unusedVariables false
noncomputable def P_c_Bound_L2 (y9_8 : List Int) (y9_9 : Bool) (x18 : Int) : Int → Option (Stp Int (Ex Unit Int)) := fun x8 =>
  if x8 < (((GSo y9_9 encI y9_8).l).length : Int) then
    el ((GSo y9_9 encI y9_8).l) x8 fun a14 =>
    if x18 = a14 then
      some (Stp.dn (Ex.rt x8))
    else
      chk (I64 (x8 + 1)) (
        some (Stp.ag (x8 + 1)))
  else
    some (Stp.dn (Ex.nx ()))
noncomputable def P_c_Bound_L1 (y9 : List Int) (y9_2 : Bool) (y9_8 : List Int) (y9_9 : Bool) : (Int × (List Int)) → Option (Stp (Int × (List Int)) (List Int)) := fun (x18, items) =>
  if x18 < (((GSo y9_2 encI y9).l).length : Int) then
    andx (
      el ((GSo y9_2 encI y9).l) x18 fun a21 =>
      andx (
        if a21 ≥ 0 then
          andx (
            seqx (
              iter (P_c_Bound_L2 y9_8 y9_9 x18) 0) fun _ =>
              some (-1)) fun y7 =>
            some (!(decide (y7 ≥ 0)))
        else
          some false) fun x31 =>
        if x31 = true then
          chk (items.length + [x18].length < 1000000000) (
            some (items ++ [x18]))
        else
          some items) fun items_2 =>
      chk (I64 (x18 + 1)) (
        some (Stp.ag ((x18 + 1), items_2)))
  else
    some (Stp.dn items)
noncomputable def P_c_Bound (c_Book_Signed : Int) (c_Book_Gatherings : List Gat) (c_Items : List Item) : Option ((List Int) × Int) :=
  andx (P_c_Faults c_Book_Signed c_Book_Gatherings c_Items) fun (y9, y9_2, y9_3, y9_4, y9_5, y9_6, y9_7, y9_8, y9_9, y9_10, y9_11, y9_12, y9_13) =>
    if ¬ y9_13 = 0 then
      some ([], y9_13)
    else
      andx (
        iter (P_c_Bound_L1 y9 y9_2 y9_8 y9_9) (0, [])) fun items =>
        chk (SortOk ((GSo y9_2 encI y9).l) items) (
          some (sortBy (keyAt ((GSo y9_2 encI y9).l)) items, 0))
noncomputable def P_law_CopyBound_L1 (c_Items : List Item) (y13 : List Int) (y31 : List Int) (y31_2 : Bool) : (Int × (List (List Int))) → Option (Stp (Int × (List (List Int))) (Ex (List (List Int)) Bool)) := fun (i, items) =>
  if i < (y13.length : Int) then
    seqx (
      seqx (
        andx (
          el y13 i fun a57 =>
          if a57 < 0 then
            some true
          else
            el y13 i fun a63 =>
            if a63 ≥ (c_Items.length : Int) then
              some true
            else
              chk (0 ≤ (0 : Int) ∧ (0 : Int) ≤ i ∧ i ≤ (y13.length : Int)) (
                el y13 i fun a76 =>
                andx (P_r1_Has (List.take (i - (0 : Int)).toNat (List.drop ((0 : Int) : Int).toNat y13)) a76) fun has78 =>
                  if has78 = true then
                    some true
                  else
                    el y13 i fun a85 =>
                    el ((GSo y31_2 encI y31).l) a85 fun a87 =>
                    some (decide (a87 < 0)))) fun x90 =>
          if x90 = true then
            some (Ex.rt (Ex.rt (Stp.dn (Ex.rt false))))
          else
            some (Ex.nx ())) fun _ =>
        el y13 i fun a96 =>
        el ((GSo y31_2 encI y31).l) a96 fun a98 =>
        chk (items.length + [[a98]].length < 1000000000) (
          some (Ex.nx (items ++ [[a98]])))) fun items_2 =>
      chk (I64 (i + 1)) (
        some (Stp.ag ((i + 1), items_2)))
  else
    some (Stp.dn (Ex.nx items))
noncomputable def P_law_CopyBound (c_Book_Signed : Int) (c_Book_Gatherings : List Gat) (c_Items : List Item) : Option Bool :=
  andx (P_c_Bound c_Book_Signed c_Book_Gatherings c_Items) fun (y13, y13_2) =>
    andx (P_l_valid c_Book_Signed c_Book_Gatherings c_Items) fun y17 =>
      if y17 = true then
        andx (P_c_Faults c_Book_Signed c_Book_Gatherings c_Items) fun (y31, y31_2, y31_3, y31_4, y31_5, y31_6, y31_7, y31_8, y31_9, y31_10, y31_11, y31_12, y31_13) =>
          seqx (
            andx (
              if ¬ y13_2 = 0 then
                some true
              else
                if ¬ y31_13 = 0 then
                  some true
                else
                  some (decide (¬ (((GSo y31_2 encI y31).l).length : Int) = (c_Items.length : Int)))) fun x48 =>
              if x48 = true then
                some (Ex.rt false)
              else
                some (Ex.nx ())) fun _ =>
            seqx (
              iter (P_law_CopyBound_L1 c_Items y13 y31 y31_2) (0, ([] : List (List Int)))) fun items =>
              andx (P_c_Faults c_Book_Signed c_Book_Gatherings (List.map (fun x => (⟨GSo true encI x⟩ : Item)) items)) fun (y109, y109_2, y109_3, y109_4, y109_5, y109_6, y109_7, y109_8, y109_9, y109_10, y109_11, y109_12, y109_13) =>
                andx (
                  if y109_13 = 0 then
                    andx (P_r1_Ints ((GSo y109_4 encI y109_3).l) ((GSo y31_4 encI y31_3).l)) fun same119 =>
                      if same119 = true then
                        if y109_5 = y31_5 then
                          if y109_12 = y109_5 then
                            chk (I64 ((((GSo y109_7 encI y109_6).l).length : Int) + (((GSo y109_9 encI y109_8).l).length : Int))) (
                              chk (I64 (((((GSo y109_7 encI y109_6).l).length : Int) + (((GSo y109_9 encI y109_8).l).length : Int)) + (((GSo y109_11 encI y109_10).l).length : Int))) (
                                if (((((GSo y109_7 encI y109_6).l).length : Int) + (((GSo y109_9 encI y109_8).l).length : Int)) + (((GSo y109_11 encI y109_10).l).length : Int)) = 0 then
                                  some true
                                else
                                  some false))
                          else
                            some false
                        else
                          some false
                      else
                        some false
                  else
                    some false) fun x2 =>
                  some x2
      else
        andx (
          if ¬ y13_2 = 0 then
            if (y13.length : Int) = 0 then
              some true
            else
              some false
          else
            some false) fun x2 =>
          some x2
end Go.Am
end
section
namespace Go.Am.Ythckcbfijdambaa
open Go.Am Go.RowKit
set_option linter.unusedVariables false
set_option linter.unusedSimpArgs false
set_option maxRecDepth 10000 in
theorem tf_c_Bound {k : Nat} (hk : 6 ≤ k) {C : List Thing} {c_Book_Signed : Int} {v_c_Book_Gatherings : AV} {c_Book_Gatherings : List Gat} {v_c_Items : AV} {c_Items : List Item} (ht_c_Book_Gatherings : RdT encG v_c_Book_Gatherings c_Book_Gatherings) (ht_c_Items : RdT encIt v_c_Items c_Items) {r : (List Int) × Int} (h : P_c_Bound c_Book_Signed c_Book_Gatherings c_Items = some r) :
  TF (EL k) 30 [.agg [iv (c_Book_Signed), v_c_Book_Gatherings, v_c_Items]] C (RepF (fun (w : AV) => .tuple [w, iv r.2]) (fun (w : AV) => ownL true w encI r.1 :: C)) := by
 unfold P_c_Bound at h
 have h_c_Book_Gatherings : Rdl C encG v_c_Book_Gatherings c_Book_Gatherings := RdT.rdl ht_c_Book_Gatherings
 have h_c_Items : Rdl C encIt v_c_Items c_Items := RdT.rdl ht_c_Items;refine TF.enter (fn := Go.Proofs.Try.f30) rfl rfl rfl rfl rfl (zU rfl (zQ 3 [_,_,_] R7 (fun b1=>zA R4 (zA R4 (zN (zU rfl (zV R3 (vW 0 [_,_,_] R5 R4) ?_)))))));obtain ⟨⟨y9, y9_2, y9_3, y9_4, y9_5, y9_6, y9_7, y9_8, y9_9, y9_10, y9_11, y9_12, y9_13⟩, hr9, h⟩ := andx_some h;dsimp only at h;obtain ⟨g, hgg, hrg⟩ := Rdl.reif (hs := .row b1 3 [iv (c_Book_Signed), v_c_Book_Gatherings, v_c_Items] :: C) h_c_Book_Gatherings M1 (ReifL.flat encG_tr);obtain ⟨g_2, hgg_2, hrg_2⟩ := Rdl.reif (hs := .row b1 3 [iv (c_Book_Signed), v_c_Book_Gatherings, v_c_Items] :: C) h_c_Items M1 (ReifL.flat encIt_tr);refine TO.call rfl rfl rfl rfl rfl (orcL rfl aD) (.cons (.agg (.cons .lit (.cons (hrg _) (.cons (hrg_2 _) .nil)))) .nil) (sem_of (w_c_Faults c_Book_Signed g g_2 _ (by try rw [hgg]; try rw [hgg_2]; exact hr9))) (zM R4 (zX R5 (zX R5 (zJ 7 [_,_,_,_,_,_,_] R7 (fun b4=>TO.eff0 rfl rfl (Eff.store_row (p := 0) (cv := [_, _, _, _, _, _, _]) (cells' := [_, _, _, _, _, _, _]) rfl rfl rfl rfl rfl rfl rfl rfl aG (by decide) rfl) ?_)))));rintro _ rfl;refine zG (_::_::C) rfl (zA R4 (zN (zS (zU rfl (zM R4 ?_)))));obtain ⟨c13, hc13⟩ := zY (¬ y9_13 = 0);refine zV R3 (Val.neq hc13 rfl rfl) (zN ?_);obtain ⟨rfl, hc13, h⟩ | ⟨rfl, hc13, h⟩ := zI hc13 h
 ·refine zC rfl (zU rfl (zM R4 (zA R4 (zA R4 (zN (T.nilown (u := encI.u) (zR ?_)))))));cases h;exact ⟨rfl, _, rfl, ⟨nilS, rfl, (pk [0,98,98] rfl)⟩⟩
 refine zD rfl (zK ?_)
 show T _ _ _ _ _ _;apply T.joinA (r := r) (W := AV) (fun j w => ⟨[], [(2, w), (4, .ptr b4 0 7)], ownL true w encI j :: .row b4 7 [(GSo y9_2 encI y9).v, (GSo y9_4 encI y9_3).v, iv (y9_5), (GSo y9_7 encI y9_6).v, (GSo y9_9 encI y9_8).v, (GSo y9_11 encI y9_10).v, iv (y9_12)] :: C⟩) h
 ·intro j h;refine zU rfl (zF 0 R6 (zL 0 R3 R6 (zV R3 (Val.len_gs rfl rfl) (zM R4 (zN (zB (T.nilown (u := encI.u) ?_)))))))
  show T _ _ _ _ _ _;apply T.iter (r := j) (W := AV) (fun j w => ⟨[], [(2, w), (4, .ptr b4 0 7), (16, (GSo y9_2 encI y9).v), (17, iv ((((GSo y9_2 encI y9).l).length : Int))), (18, iv (j.1))], ownL true w encI j.2 :: .row b4 7 [(GSo y9_2 encI y9).v, (GSo y9_4 encI y9_3).v, iv (y9_5), (GSo y9_7 encI y9_6).v, (GSo y9_9 encI y9_8).v, (GSo y9_11 encI y9_10).v, iv (y9_12)] :: C⟩) (w0 := nilS) h
  ·exact (sb (pk [0,0,98] rfl))
  rintro ⟨x18, items⟩ v4 a h;unfold P_c_Bound_L1 at h;dsimp only at h;dsimp only;refine zU rfl ?_;obtain ⟨c19, hc19⟩ := zY (x18 < (((GSo y9_2 encI y9).l).length : Int));refine zV R3 (Val.lss hc19 rfl rfl) (zN (zS ?_));obtain ⟨rfl, hc19, h⟩ | ⟨rfl, hc19, h⟩ := zI hc19 h
  ·refine zC rfl (zK ?_)
   show T _ _ _ _ _ _;apply T.joinA (r := a) (W := AV) (fun j w => ⟨[], [(2, w), (4, .ptr b4 0 7), (16, (GSo y9_2 encI y9).v), (17, iv ((((GSo y9_2 encI y9).l).length : Int))), (18, iv (x18))], ownL true w encI j :: .row b4 7 [(GSo y9_2 encI y9).v, (GSo y9_4 encI y9_3).v, iv (y9_5), (GSo y9_7 encI y9_6).v, (GSo y9_9 encI y9_8).v, (GSo y9_11 encI y9_10).v, iv (y9_12)] :: C⟩) h
   ·intro j h;refine zB (zU rfl (zM R4 ?_));obtain ⟨a21, hia21, ea21, h⟩ := el_some h;refine TO.fact (rdl_at (Rdl.gs (C := C) (GSo y9_2 encI y9)) M2 hia21 ea21) (fun hp=>?_);obtain ⟨pa21, hpa21, hva21⟩ := hp;refine zV R3 (hva21 ⟨rfl, rfl⟩ rfl rfl) (zV R3 (Val.load_e hpa21 M2 ⟨_, rfl, rfl⟩ rfl rfl) (zA R4 (zA R4 (zN ?_))))
    show T _ _ _ _ _ _;apply T.joinA (r := j) (W := Unit) (fun j w => ⟨[], [(2, v4), (4, .ptr b4 0 7), (5, iv (x18)), (16, (GSo y9_2 encI y9).v), (17, iv ((((GSo y9_2 encI y9).l).length : Int))), (18, iv (x18)), (31, bv j)], ownL true v4 encI items :: .row b4 7 [(GSo y9_2 encI y9).v, (GSo y9_4 encI y9_3).v, iv (y9_5), (GSo y9_7 encI y9_6).v, (GSo y9_9 encI y9_8).v, (GSo y9_11 encI y9_10).v, iv (y9_12)] :: C⟩) h
    ·intro j h;refine zT rfl (zM R4 ?_);obtain ⟨c24, hc24⟩ := zY (a21 ≥ 0);refine zV R3 (Val.geq hc24 rfl rfl) (zM R4 ?_);obtain ⟨rfl, hc24, h⟩ | ⟨rfl, hc24, h⟩ := zI hc24 h
     ·refine zF 4 R6 (zL 1 R3 R6 (zM R4 (TO.callIn rfl rfl rfl rfl rfl rfl (orcN rfl) (TF.enter (fn := Go.Proofs.Try.f49) rfl rfl rfl rfl rfl (zU rfl (zA R4 (zN (zU rfl (zM R4 (zM R4 ?_))))))))));refine TO.callJ (W := Unit) (fun (j : Int) (w : Unit) => iv (j)) (fun (j : Int) (w : Unit) => ownL true v4 encI items :: .row b4 7 [(GSo y9_2 encI y9).v, (GSo y9_4 encI y9_3).v, iv (y9_5), (GSo y9_7 encI y9_6).v, (GSo y9_9 encI y9_8).v, (GSo y9_11 encI y9_10).v, iv (y9_12)] :: C) h rfl rfl rfl rfl rfl rfl (orcN rfl) ?_ ?_
      ·intro j h;refine TF.enter (fn := Go.Proofs.Try.f67) rfl rfl rfl rfl rfl (zU rfl (zA R4 (zN ?_)))
       show T _ _ _ _ _ _;apply T.join (r := j) (W := Unit) (fun j w => ⟨[], [], ownL true v4 encI items :: .row b4 7 [(GSo y9_2 encI y9).v, (GSo y9_4 encI y9_3).v, iv (y9_5), (GSo y9_7 encI y9_6).v, (GSo y9_9 encI y9_8).v, (GSo y9_11 encI y9_10).v, iv (y9_12)] :: C⟩) h
       ·intro j h;refine zU rfl (zM R4 (zV R3 (Val.len_gs rfl rfl) (zM R4 (zN (zB ?_)))))
        show T _ _ _ _ _ _;apply T.iter (r := j) (W := Unit) (fun j w => ⟨[], [(0, (GSo y9_9 encI y9_8).v), (1, iv (x18)), (7, iv ((((GSo y9_9 encI y9_8).l).length : Int))), (8, iv (j))], ownL true v4 encI items :: .row b4 7 [(GSo y9_2 encI y9).v, (GSo y9_4 encI y9_3).v, iv (y9_5), (GSo y9_7 encI y9_6).v, (GSo y9_9 encI y9_8).v, (GSo y9_11 encI y9_10).v, iv (y9_12)] :: C⟩) (w0 := ()) h
        ·exact (sb .refl)
        rintro x8 _ a h;unfold P_c_Bound_L2 at h;refine zU rfl ?_;obtain ⟨c9, hc9⟩ := zY (x8 < (((GSo y9_9 encI y9_8).l).length : Int));refine zV R3 (Val.lss hc9 rfl rfl) (zN (zS ?_));obtain ⟨rfl, hc9, h⟩ | ⟨rfl, hc9, h⟩ := zI hc9 h
        ·refine zC rfl (zK (zS (zB (zU rfl (zM R4 (zA R4 (zN (zU rfl (zM R4 (zM R4 (zM R4 ?_)))))))))));obtain ⟨a14, hia14, ea14, h⟩ := el_some h;refine TO.fact (rdl_at (Rdl.gs (C := C) (GSo y9_9 encI y9_8)) M2 hia14 ea14) (fun hp=>?_);obtain ⟨pa14, hpa14, hva14⟩ := hp;refine zV R3 (hva14 ⟨rfl, rfl⟩ rfl rfl) (zV R3 (Val.load_e hpa14 M2 ⟨_, rfl, rfl⟩ rfl rfl) ?_);obtain ⟨c16, hc16⟩ := zY (x18 = a14);refine zV R3 (Val.eql hc16 rfl rfl) (zN ?_);obtain ⟨rfl, hc16, h⟩ | ⟨rfl, hc16, h⟩ := zI hc16 h
         ·refine zC rfl (zU rfl (zM R4 (zA R4 (zN (zR ?_)))));cases h;exact ⟨ret_ne, ⟨ret_ne, ⟨rfl, _, rfl, ⟨(), rfl, .refl⟩⟩⟩⟩
         refine zD rfl (zK (zT rfl ?_));obtain ⟨hk18, h⟩ := chk_some h;refine zV R3 (Val.add rfl rfl hk18) (zM R4 (zN ?_));cases h;exact ⟨rfl, (), (sb .refl)⟩
        refine zD rfl (zE ?_);cases h;exact ⟨ex_ne, ⟨rfl, (), (sb .refl)⟩⟩
       ·rintro _ _ h;refine zU rfl (zA R4 (zN (zR ?_)));cases h;exact ⟨rfl, _, rfl, ⟨(), rfl, .refl⟩⟩
      ·rintro y7 _ h;refine zG (_::_::C) rfl ?_;obtain ⟨c8, hc8⟩ := zY (y7 ≥ 0);refine zV R3 (Val.geq hc8 rfl rfl) (zA R4 (zN (zR ?_)));refine ⟨rfl, _, rfl, ?_⟩;refine zV R3 (Val.not rfl) (zP R6 (zN ?_));subst hc8;cases h;exact ⟨rfl, (), (sb .refl)⟩
     refine zO R3 (zO R3 (zO R3 (zO R3 (zO R3 (zP R6 (zN ?_))))));cases h;exact ⟨rfl, (), (sb .refl)⟩
    ·rintro x31 _ h;obtain ⟨rfl, h⟩ | ⟨rfl, h⟩ := zZ h
     ·refine zC rfl (zT rfl (zM R4 (zM R4 (TO.build1 (en := encI) (a := x18) rfl rfl rfl ⟨rfl, rfl⟩ ⟨_, rfl, rfl⟩ (by decide) (by decide) rfl rfl (fun v34=>?_)))));obtain ⟨hk35, h⟩ := chk_some h;refine TO.eff rfl rfl rfl (Eff.append_own (b := 8) (en := encI) (l := items) (l2 := [x18]) (p := 1) (q := 0) ⟨rfl, rfl, rfl, ⟨_, rfl, rfl⟩, by decide, by decide⟩ rfl rfl rfl rfl rfl rfl (flat_ones _) (by decide) hk35) ?_;rintro v35 _ rfl;refine zG (_::_::_::C) rfl (zA R4 (zN ?_));cases h;exact ⟨rfl, v35, (sb (pk [1,1,98] rfl))⟩
     refine zD rfl (zK ?_);cases h;exact ⟨rfl, v4, (sb .refl)⟩
   ·rintro items_2 v4_2 h;refine zT rfl ?_;obtain ⟨hk36, h⟩ := chk_some h;refine zV R3 (Val.add rfl rfl hk36) (zM R4 (zN ?_));cases h;exact ⟨rfl, v4_2, (sb .refl)⟩
  refine zD rfl (zE ?_);cases h;exact ⟨ex_ne, ⟨rfl, v4, (sb .refl)⟩⟩
 ·rintro items v4 h;refine zU rfl (zM R4 (zV R3 (Val.makeFunc rfl rfl) ?_));obtain ⟨hkS, h⟩ := chk_some h;refine TO.callT (first := []) (cap := []) (vs := [v4, .func 51 [] [.ptr b4 0 7]]) rfl rfl rfl rfl rfl rfl (orcN rfl) (TF.sortKey (E0 := env0) (p := 0) (key := keyAt ((GSo y9_2 encI y9).l)) (N := (((GSo y9_2 encI y9).l).length : Int)) rfl rfl hkS.1 ⟨_, rfl⟩ hkS.2.1 hkS.2.2.1 (fun _ x y a1 a2 a3 a4 => tf_c_Bound1 (Rdl.mono (Rdl.gs (C := C) (GSo y9_2 encI y9)) M2) (Rdl.mono (Rdl.gs (C := C) (GSo y9_4 encI y9_3)) M2) (Rdl.mono (Rdl.gs (C := C) (GSo y9_7 encI y9_6)) M2) (Rdl.mono (Rdl.gs (C := C) (GSo y9_9 encI y9_8)) M2) (Rdl.mono (Rdl.gs (C := C) (GSo y9_11 encI y9_10)) M2) (List.mem_of_getElem? (i := 1) rfl) (c_Bound1_ok hkS a1 a2 a3 a4))) ?_;rintro _;refine zG (_::_::C) rfl (zN (zU rfl (zM R4 (zA R4 (zA R4 (zN (zR ?_)))))));cases h;exact ⟨rfl, _, rfl, ⟨v4, rfl, (pk [0,98] rfl)⟩⟩
theorem w_c_Bound (c_Book_Signed : Int) (c_Book_Gatherings : GS encG) (c_Items : GS encIt) (r : (List Int) × Int) (h : P_c_Bound c_Book_Signed c_Book_Gatherings.l c_Items.l = some r) : Comes (EL 6) 30 [.agg [iv (c_Book_Signed), c_Book_Gatherings.v, c_Items.v]] (.tuple [(GSo true encI r.1).v, iv r.2]) :=
 TF.run (tf_c_Bound (Nat.le_refl _) (RdT.gs c_Book_Gatherings) (RdT.gs c_Items) h) fun w => (.tuple (.cons (.ownL (en := encI) (p := 0) rfl (.lits encI_lits)) (.cons .lit .nil)))
set_option maxRecDepth 10000 in
theorem tf_law_CopyBound {k : Nat} (hk : 7 ≤ k) {C : List Thing} {c_Book_Signed : Int} {v_c_Book_Gatherings : AV} {c_Book_Gatherings : List Gat} {v_c_Items : AV} {c_Items : List Item} (ht_c_Book_Gatherings : RdT encG v_c_Book_Gatherings c_Book_Gatherings) (ht_c_Items : RdT encIt v_c_Items c_Items) {r : Bool} (h : P_law_CopyBound c_Book_Signed c_Book_Gatherings c_Items = some r) :
  TF (EL k) 7 [.agg [iv (c_Book_Signed), v_c_Book_Gatherings, v_c_Items]] C (RepF (fun (w : Unit) => bv r) (fun (w : Unit) => C)) := by
 unfold P_law_CopyBound at h
 have h_c_Book_Gatherings : Rdl C encG v_c_Book_Gatherings c_Book_Gatherings := RdT.rdl ht_c_Book_Gatherings
 have h_c_Items : Rdl C encIt v_c_Items c_Items := RdT.rdl ht_c_Items;refine TF.enter (fn := Go.Proofs.Try.f7) rfl rfl rfl rfl rfl (zU rfl (zQ 3 [_,_,_] R7 (fun b1=>zA R4 (zN (zU rfl (zV R3 (vW 0 [_,_,_] R5 R4) ?_))))));obtain ⟨⟨y13, y13_2⟩, hr13, h⟩ := andx_some h;dsimp only at h;obtain ⟨g, hgg, hrg⟩ := Rdl.reif (hs := .row b1 3 [iv (c_Book_Signed), v_c_Book_Gatherings, v_c_Items] :: C) h_c_Book_Gatherings M1 (ReifL.flat encG_tr);obtain ⟨g_2, hgg_2, hrg_2⟩ := Rdl.reif (hs := .row b1 3 [iv (c_Book_Signed), v_c_Book_Gatherings, v_c_Items] :: C) h_c_Items M1 (ReifL.flat encIt_tr);refine TO.call rfl rfl rfl rfl rfl (orcL rfl aD) (.cons (.agg (.cons .lit (.cons (hrg _) (.cons (hrg_2 _) .nil)))) .nil) (sem_of (w_c_Bound c_Book_Signed g g_2 _ (by try rw [hgg]; try rw [hgg_2]; exact hr13))) (zM R4 (zX R5 (zX R5 (zA R4 (zA R4 (zN (zS (zU rfl (zV R3 (vW 0 [_,_,_] R5 R4) ?_)))))))));obtain ⟨y17, hr17, h⟩ := andx_some h;obtain ⟨g_3, hgg_3, hrg_3⟩ := Rdl.reif (hs := .row b1 3 [iv (c_Book_Signed), v_c_Book_Gatherings, v_c_Items] :: C) h_c_Book_Gatherings M1 (ReifL.flat encG_tr);obtain ⟨g_4, hgg_4, hrg_4⟩ := Rdl.reif (hs := .row b1 3 [iv (c_Book_Signed), v_c_Book_Gatherings, v_c_Items] :: C) h_c_Items M1 (ReifL.flat encIt_tr);refine TO.call rfl rfl rfl rfl rfl (orcL rfl aD) (.cons (.agg (.cons .lit (.cons (hrg_3 _) (.cons (hrg_4 _) .nil)))) .nil) (sem_of (w_l_valid c_Book_Signed g_3 g_4 _ (by try rw [hgg_3]; try rw [hgg_4]; exact hr17))) (zV R3 (Val.not rfl) (zN ?_));obtain ⟨rfl, h⟩ | ⟨rfl, h⟩ := zZ h
 ·refine zD rfl (zK (zU rfl (zV R3 (vW 0 [_,_,_] R5 R4) ?_)));obtain ⟨⟨y31, y31_2, y31_3, y31_4, y31_5, y31_6, y31_7, y31_8, y31_9, y31_10, y31_11, y31_12, y31_13⟩, hr31, h⟩ := andx_some h;dsimp only at h;obtain ⟨g_5, hgg_5, hrg_5⟩ := Rdl.reif (hs := .row b1 3 [iv (c_Book_Signed), v_c_Book_Gatherings, v_c_Items] :: C) h_c_Book_Gatherings M1 (ReifL.flat encG_tr);obtain ⟨g_6, hgg_6, hrg_6⟩ := Rdl.reif (hs := .row b1 3 [iv (c_Book_Signed), v_c_Book_Gatherings, v_c_Items] :: C) h_c_Items M1 (ReifL.flat encIt_tr);refine TO.call rfl rfl rfl rfl rfl (orcL rfl aD) (.cons (.agg (.cons .lit (.cons (hrg_5 _) (.cons (hrg_6 _) .nil)))) .nil) (sem_of (w_c_Faults c_Book_Signed g_5 g_6 _ (by try rw [hgg_5]; try rw [hgg_6]; exact hr31))) (zM R4 (zX R5 (zX R5 (zJ 7 [_,_,_,_,_,_,_] R7 (fun b5=>TO.eff0 rfl rfl (Eff.store_row (p := 0) (cv := [_, _, _, _, _, _, _]) (cells' := [_, _, _, _, _, _, _]) rfl rfl rfl rfl rfl rfl rfl rfl aG (by decide) rfl) ?_)))));rintro _ rfl;refine zG (_::_::C) rfl (zA R4 (zN ?_))
  show T _ _ _ _ _ _;apply T.join (r := r) (W := Unit) (fun j w => ⟨[], [(1, .ptr b1 0 3), (3, (GSo true encI y13).v), (5, .ptr b5 0 7)], .row b5 7 [(GSo y31_2 encI y31).v, (GSo y31_4 encI y31_3).v, iv (y31_5), (GSo y31_7 encI y31_6).v, (GSo y31_9 encI y31_8).v, (GSo y31_11 encI y31_10).v, iv (y31_12)] :: .row b1 3 [iv (c_Book_Signed), v_c_Book_Gatherings, v_c_Items] :: C⟩) h
  ·intro j h
   show T _ _ _ _ _ _;apply T.joinA (r := j) (W := Unit) (fun j w => ⟨[], [(1, .ptr b1 0 3), (3, (GSo true encI y13).v), (5, .ptr b5 0 7), (48, bv j)], .row b5 7 [(GSo y31_2 encI y31).v, (GSo y31_4 encI y31_3).v, iv (y31_5), (GSo y31_7 encI y31_6).v, (GSo y31_9 encI y31_8).v, (GSo y31_11 encI y31_10).v, iv (y31_12)] :: .row b1 3 [iv (c_Book_Signed), v_c_Book_Gatherings, v_c_Items] :: C⟩) h
   ·intro j h;refine zT rfl (zM R4 ?_);obtain ⟨c35, hc35⟩ := zY (¬ y13_2 = 0);refine zV R3 (Val.neq hc35 rfl rfl) (zM R4 ?_);obtain ⟨rfl, hc35, h⟩ | ⟨rfl, hc35, h⟩ := zI hc35 h
    ·refine zO R3 (zO R3 (zP R6 (zM R4 (zO R3 (zO R3 (zO R3 (zO R3 (zO R3 (zO R3 (zO R3 (zP R6 (zN ?_))))))))))));cases h;exact ⟨rfl, (), (sb .refl)⟩
    refine zM R4 ?_;obtain ⟨c38, hc38⟩ := zY (¬ y31_13 = 0);refine zV R3 (Val.neq hc38 rfl rfl) (zP R6 (zM R4 ?_));obtain ⟨rfl, hc38, h⟩ | ⟨rfl, hc38, h⟩ := zI hc38 h
    ·refine zO R3 (zO R3 (zO R3 (zO R3 (zO R3 (zO R3 (zO R3 (zP R6 (zN ?_))))))));cases h;exact ⟨rfl, (), (sb .refl)⟩
    refine zF 0 R6 (zL 0 R3 R6 (zV R3 (Val.len_gs rfl rfl) (zF 2 R6 (zL 1 R3 R6 (zV R3 (Val.len_l h_c_Items M2 rfl rfl) ?_)))));obtain ⟨c47, hc47⟩ := zY (¬ (((GSo y31_2 encI y31).l).length : Int) = (c_Items.length : Int));refine zV R3 (Val.neq hc47 rfl rfl) (zP R6 (zN ?_));subst hc47;cases h;exact ⟨rfl, (), (sb .refl)⟩
   ·rintro x48 _ h;obtain ⟨rfl, h⟩ | ⟨rfl, h⟩ := zZ h
    ·refine zC rfl (zU rfl (zA R4 (zN (zR ?_))));cases h;exact ⟨ret_ne, ⟨rfl, _, rfl, ⟨(), rfl, (pk [98,98] rfl)⟩⟩⟩
    refine zD rfl (zK ?_);cases h;exact ⟨rfl, (), (sb .refl)⟩
  ·rintro _ _ h;refine zU rfl (zA R4 (zN ?_))
   show T _ _ _ _ _ _;apply T.join (r := r) (W := AV × (List AV)) (fun j w => ⟨[], [(1, .ptr b1 0 3), (5, .ptr b5 0 7), (7, w.1)], nestH true w.1 j w.2 :: .row b5 7 [(GSo y31_2 encI y31).v, (GSo y31_4 encI y31_3).v, iv (y31_5), (GSo y31_7 encI y31_6).v, (GSo y31_9 encI y31_8).v, (GSo y31_11 encI y31_10).v, iv (y31_12)] :: .row b1 3 [iv (c_Book_Signed), v_c_Book_Gatherings, v_c_Items] :: (seg encI w.2 j ++ C)⟩) h
   ·intro j h;refine zU rfl (zA R4 (zN (zB (T.nilown (u := 1) (T.things (hs' := nestH true nilS ([] : List (List Int)) [] :: .row b5 7 [(GSo y31_2 encI y31).v, (GSo y31_4 encI y31_3).v, iv (y31_5), (GSo y31_7 encI y31_6).v, (GSo y31_9 encI y31_8).v, (GSo y31_11 encI y31_10).v, iv (y31_12)] :: .row b1 3 [iv (c_Book_Signed), v_c_Book_Gatherings, v_c_Items] :: (seg encI [] ([] : List (List Int)) ++ C)) rfl ?_)))))
    show T _ _ _ _ _ _;apply T.iter (r := j) (W := AV × (List AV)) (fun j w => ⟨[], [(1, .ptr b1 0 3), (3, (GSo true encI y13).v), (5, .ptr b5 0 7), (7, w.1), (8, iv (j.1))], nestH true w.1 j.2 w.2 :: .row b5 7 [(GSo y31_2 encI y31).v, (GSo y31_4 encI y31_3).v, iv (y31_5), (GSo y31_7 encI y31_6).v, (GSo y31_9 encI y31_8).v, (GSo y31_11 encI y31_10).v, iv (y31_12)] :: .row b1 3 [iv (c_Book_Signed), v_c_Book_Gatherings, v_c_Items] :: (seg encI w.2 j.2 ++ C)⟩) (w0 := (nilS, [])) h
    ·exact (sb .refl)
    rintro ⟨i, items⟩ ⟨vn3, wsn3⟩ a h;unfold P_law_CopyBound_L1 at h;dsimp only at h;dsimp only;refine zS (zU rfl (zM R4 (zM R4 (zV R3 (Val.len_gs rfl rfl) ?_))));obtain ⟨c52, hc52⟩ := zY (i < (y13.length : Int));refine zV R3 (Val.lss hc52 rfl rfl) (zN ?_);obtain ⟨rfl, hc52, h⟩ | ⟨rfl, hc52, h⟩ := zI hc52 h
    ·refine zC rfl (zK ?_)
     show T _ _ _ _ _ _;apply T.join (r := a) (W := AV × (List AV)) (fun j w => ⟨[], [(1, .ptr b1 0 3), (3, (GSo true encI y13).v), (5, .ptr b5 0 7), (7, w.1), (8, iv (i))], nestH true w.1 j w.2 :: .row b5 7 [(GSo y31_2 encI y31).v, (GSo y31_4 encI y31_3).v, iv (y31_5), (GSo y31_7 encI y31_6).v, (GSo y31_9 encI y31_8).v, (GSo y31_11 encI y31_10).v, iv (y31_12)] :: .row b1 3 [iv (c_Book_Signed), v_c_Book_Gatherings, v_c_Items] :: (seg encI w.2 j ++ C)⟩) h
     ·intro j h;refine zB ?_
      show T _ _ _ _ _ _;apply T.join (r := j) (W := Unit) (fun j w => ⟨[], [(1, .ptr b1 0 3), (3, (GSo true encI y13).v), (5, .ptr b5 0 7), (7, vn3), (8, iv (i))], nestH true vn3 items wsn3 :: .row b5 7 [(GSo y31_2 encI y31).v, (GSo y31_4 encI y31_3).v, iv (y31_5), (GSo y31_7 encI y31_6).v, (GSo y31_9 encI y31_8).v, (GSo y31_11 encI y31_10).v, iv (y31_12)] :: .row b1 3 [iv (c_Book_Signed), v_c_Book_Gatherings, v_c_Items] :: (seg encI wsn3 items ++ C)⟩) h
      ·intro j h
       show T _ _ _ _ _ _;apply T.joinA (r := j) (W := Unit) (fun j w => ⟨[], [(1, .ptr b1 0 3), (3, (GSo true encI y13).v), (5, .ptr b5 0 7), (7, vn3), (8, iv (i)), (90, bv j)], nestH true vn3 items wsn3 :: .row b5 7 [(GSo y31_2 encI y31).v, (GSo y31_4 encI y31_3).v, iv (y31_5), (GSo y31_7 encI y31_6).v, (GSo y31_9 encI y31_8).v, (GSo y31_11 encI y31_10).v, iv (y31_12)] :: .row b1 3 [iv (c_Book_Signed), v_c_Book_Gatherings, v_c_Items] :: (seg encI wsn3 items ++ C)⟩) h
       ·intro j h;refine T.draw (fun v => sameC_refl v) (l1 := [0, 1, 2, 3, 4, 5, 6, 7, 8, 9, 10, 11, 12, 13, 14, 15, 16, 17, 18, 19, 20, 21, 22]) (l2 := [23, 24, 25, 26, 27, 28, 29, 30, 31, 32, 33, 34, 35]) (by kernel_rfl) (by kernel_rfl) (zM R4 (zM R4 ?_));obtain ⟨a57, hia57, ea57, h⟩ := el_some h;refine TO.fact (rdl_at (Rdl.gs (C := C) (GSo true encI y13)) (memS (memS (memS (memG mem0)))) hia57 ea57) (fun hp=>?_);obtain ⟨pa57, hpa57, hva57⟩ := hp;refine zV R3 (hva57 ⟨rfl, rfl⟩ rfl rfl) (zV R3 (Val.load_e hpa57 (memS (memS (memS (memG mem0)))) ⟨_, rfl, rfl⟩ rfl rfl) ?_);obtain ⟨c59, hc59⟩ := zY (a57 < 0);refine zV R3 (Val.lss hc59 rfl rfl) (zM R4 ?_);obtain ⟨rfl, hc59, h⟩ | ⟨rfl, hc59, h⟩ := zI hc59 h
        ·refine zO R3 (zO R3 (zO R3 (zO R3 (zO R3 (zO R3 (zO R3 (zO R3 (zP R6 (zM R4 (zO R3 (zO R3 (zO R3 (zO R3 (zO R3 (zO R3 (zO R3 (zO R3 (zP R6 (zM R4 (zO R3 (zO R3 (zO R3 (zO R3 (zO R3 (zO R3 (zO R3 (zO R3 (zO R3 (zP R6 (zN ?_))))))))))))))))))))))))))))));cases h;exact ⟨rfl, (), (sb .refl)⟩
        refine zM R4 (zM R4 ?_);obtain ⟨a63, hia63, ea63, h⟩ := el_some h;refine TO.fact (rdl_at (Rdl.gs (C := C) (GSo true encI y13)) (memS (memS (memS (memG mem0)))) hia63 ea63) (fun hp=>?_);obtain ⟨pa63, hpa63, hva63⟩ := hp;refine zV R3 (hva63 ⟨rfl, rfl⟩ rfl rfl) (zV R3 (Val.load_e hpa63 (memS (memS (memS (memG mem0)))) ⟨_, rfl, rfl⟩ rfl rfl) (zF 2 R6 (zL 2 R3 R6 (zV R3 (Val.len_l h_c_Items (memS (memS (memS (memG mem0)))) rfl rfl) ?_))));obtain ⟨c68, hc68⟩ := zY (a63 ≥ (c_Items.length : Int));refine zV R3 (Val.geq hc68 rfl rfl) (zP R6 (zM R4 ?_));obtain ⟨rfl, hc68, h⟩ | ⟨rfl, hc68, h⟩ := zI hc68 h
        ·refine zO R3 (zO R3 (zO R3 (zO R3 (zO R3 (zO R3 (zO R3 (zO R3 (zP R6 (zM R4 (zO R3 (zO R3 (zO R3 (zO R3 (zO R3 (zO R3 (zO R3 (zO R3 (zO R3 (zP R6 (zN ?_))))))))))))))))))));cases h;exact ⟨rfl, (), (sb .refl)⟩
        refine zM R4 (zM R4 ?_);obtain ⟨hk73, h⟩ := chk_some h;obtain ⟨w73, htw73, hgw73, hvw73⟩ := slice_T (RdT.gs (GSo true encI y13)) hk73
        have hw73 : Rdl C encI w73 (List.take (i - (0 : Int)).toNat (List.drop ((0 : Int) : Int).toNat y13)) := RdT.rdl htw73;refine zV R3 (hvw73 ⟨rfl, rfl⟩ rfl .no (.some rfl)) (zM R4 (zM R4 ?_));obtain ⟨a76, hia76, ea76, h⟩ := el_some h;refine TO.fact (rdl_at (Rdl.gs (C := C) (GSo true encI y13)) (memS (memS (memS (memG mem0)))) hia76 ea76) (fun hp=>?_);obtain ⟨pa76, hpa76, hva76⟩ := hp;refine zV R3 (hva76 ⟨rfl, rfl⟩ rfl rfl) (zV R3 (Val.load_e hpa76 (memS (memS (memS (memG mem0)))) ⟨_, rfl, rfl⟩ rfl rfl) ?_);obtain ⟨has78, hr78, h⟩ := andx_some h;obtain ⟨g_7, hgg_7, hrg_7⟩ := Rdl.reif (hs := nestH true vn3 items wsn3 :: .row b5 7 [(GSo y31_2 encI y31).v, (GSo y31_4 encI y31_3).v, iv (y31_5), (GSo y31_7 encI y31_6).v, (GSo y31_9 encI y31_8).v, (GSo y31_11 encI y31_10).v, iv (y31_12)] :: .row b1 3 [iv (c_Book_Signed), v_c_Book_Gatherings, v_c_Items] :: (seg encI wsn3 items ++ C)) hw73 (memS (memS (memS (memG mem0)))) (ReifL.flat encI_tr);refine TO.call rfl rfl rfl rfl rfl (orcL rfl aD) (.cons (hrg_7 _) (.cons .lit .nil)) (sem_of (w_r1_Has g_7 a76 _ (by try rw [hgg_7]; exact hr78))) (zP R6 (zM R4 ?_));obtain ⟨rfl, h⟩ | ⟨rfl, h⟩ := zZ h
        ·refine zO R3 (zO R3 (zO R3 (zO R3 (zO R3 (zO R3 (zO R3 (zO R3 (zO R3 (zP R6 (zN ?_))))))))));cases h;exact ⟨rfl, (), (sb .refl)⟩
        refine zF 0 R6 (zL 1 R3 R6 (zM R4 (zM R4 ?_)));obtain ⟨a85, hia85, ea85, h⟩ := el_some h;refine TO.fact (rdl_at (Rdl.gs (C := C) (GSo true encI y13)) (memS (memS (memS (memG mem0)))) hia85 ea85) (fun hp=>?_);obtain ⟨pa85, hpa85, hva85⟩ := hp;refine zV R3 (hva85 ⟨rfl, rfl⟩ rfl rfl) (zV R3 (Val.load_e hpa85 (memS (memS (memS (memG mem0)))) ⟨_, rfl, rfl⟩ rfl rfl) ?_);obtain ⟨a87, hia87, ea87, h⟩ := el_some h;refine TO.fact (rdl_at (Rdl.gs (C := C) (GSo y31_2 encI y31)) (memS (memS (memS (memG mem0)))) hia87 ea87) (fun hp=>?_);obtain ⟨pa87, hpa87, hva87⟩ := hp;refine zV R3 (hva87 ⟨rfl, rfl⟩ rfl rfl) (zV R3 (Val.load_e hpa87 (memS (memS (memS (memG mem0)))) ⟨_, rfl, rfl⟩ rfl rfl) ?_);obtain ⟨c89, hc89⟩ := zY (a87 < 0);refine zV R3 (Val.lss hc89 rfl rfl) (zP R6 (zN ?_));subst hc89;cases h;exact ⟨rfl, (), (sb .refl)⟩
       ·rintro x90 _ h;obtain ⟨rfl, h⟩ | ⟨rfl, h⟩ := zZ h
        ·refine zC rfl (zU rfl (zA R4 (zN (zR ?_))));cases h;exact ⟨ret_ne, ⟨ret_ne, ⟨ret_ne, ⟨ret_ne, ⟨rfl, _, rfl, ⟨(), rfl, (.drop (.drop (.drop (.dropA .refl))))⟩⟩⟩⟩⟩⟩
        refine zD rfl (zK ?_);cases h;exact ⟨rfl, (), (sb .refl)⟩
      ·rintro _ _ h;refine T.drawE (l1 := [0, 1, 2, 3, 4, 5, 6, 7, 8, 9, 10, 11]) (l2 := [12, 13]) (by kernel_rfl) (by kernel_rfl) (yL R4 (Val.move rfl) (yL R4 (Val.faddr_ptr (fo := 0) rfl rfl rfl) (yR R4 (vR (p := 1) R6) (yL R4 (Val.move rfl) (yL R4 (Val.move rfl) ?_)))));obtain ⟨a96, hia96, ea96, h⟩ := el_some h;refine TD1.fact (rdl_at (Rdl.gs (C := C) (GSo true encI y13)) (memS (memS (memS (memG mem0)))) hia96 ea96) (fun hp=>?_);obtain ⟨pa96, hpa96, hva96⟩ := hp;refine yL R4 (hva96 ⟨rfl, rfl⟩ rfl rfl) (yR R4 (Val.load_e hpa96 (memS (memS (memS (memG mem0)))) ⟨_, rfl, rfl⟩ rfl rfl) ?_);obtain ⟨a98, hia98, ea98, h⟩ := el_some h;refine TD1.fact (rdl_at (Rdl.gs (C := C) (GSo y31_2 encI y31)) (memS (memS (memS (memG mem0)))) hia98 ea98) (fun hp=>?_);obtain ⟨pa98, hpa98, hva98⟩ := hp;refine yL R4 (hva98 ⟨rfl, rfl⟩ rfl rfl) (yR R4 (Val.load_e hpa98 (memS (memS (memS (memG mem0)))) ⟨_, rfl, rfl⟩ rfl rfl) (TD1.floatN rfl rfl rfl rfl (New.buildSlice (en := encI) (l := [a98]) (vs := [(_, _)]) (ws := [(_, [_])]) ⟨rfl, rfl⟩ rfl rfl rfl rfl (CellsL.cons rfl CellsL.nil) rfl rfl) (fun v100=>TD1.less (Less.floatOwn (en := encI) (l := [a98]) (p := 0) rfl) (TD1.things (hs' := ownL false (.slice v100 0 (List.flatMap encI.f [a98]).length true (List.length [a98]) (List.length [a98])) encI [a98] :: nestH true vn3 items wsn3 :: .row b5 7 [(GSo y31_2 encI y31).v, (GSo y31_4 encI y31_3).v, iv (y31_5), (GSo y31_7 encI y31_6).v, (GSo y31_9 encI y31_8).v, (GSo y31_11 encI y31_10).v, iv (y31_12)] :: .row b1 3 [iv (c_Book_Signed), v_c_Book_Gatherings, v_c_Items] :: (seg encI wsn3 items ++ C)) rfl (TD1.fact (own_cellS (p := 0) rfl) (fun hot4=>yL R4 (Val.buildC (cs := [_]) (vs := [(_, _)]) (ws := [(_, [_])]) rfl rfl (CellsL.cons hot4.1 CellsL.nil) rfl) (TD1.less (Less.ownTrue (p := 0) rfl (.inr (by simp))) (TD1.things (hs' := ownL true (.slice v100 0 (List.flatMap encI.f [a98]).length true (List.length [a98]) (List.length [a98])) encI [a98] :: nestH true vn3 items wsn3 :: .row b5 7 [(GSo y31_2 encI y31).v, (GSo y31_4 encI y31_3).v, iv (y31_5), (GSo y31_7 encI y31_6).v, (GSo y31_9 encI y31_8).v, (GSo y31_11 encI y31_10).v, iv (y31_12)] :: .row b1 3 [iv (c_Book_Signed), v_c_Book_Gatherings, v_c_Items] :: (seg encI wsn3 items ++ C)) rfl ?_))))))));refine TD1.fact (own_cellS (p := 0) rfl) (fun hot4=>TD1.floatN rfl rfl rfl rfl (New.buildSlice (en := encAV) (l := [(.slice v100 0 (List.flatMap encI.f [a98]).length true (List.length [a98]) (List.length [a98]))]) (vs := [(_, _)]) (ws := [(_, [_])]) ⟨rfl, rfl⟩ rfl rfl rfl rfl (CellsL.cons rfl CellsL.nil) rfl rfl) (fun v102_2=>TD1.over (fun v => sameC_refl v) (all_cons (⟨_, rfl, (Val.load_e hpa98 (memS (memS (memS (memS (memS (memG mem0)))))) ⟨_, rfl, rfl⟩ rfl rfl)⟩) (all_cons (⟨_, rfl, (Val.load_e hpa96 (memS (memS (memS (memS (memS (memG mem0)))))) ⟨_, rfl, rfl⟩ rfl rfl)⟩) (all_cons (⟨_, rfl, (vR (p := 3) R6)⟩) all_nil))) (TD2.less (Less.floatOwn (en := encAV) (l := [(.slice v100 0 (List.flatMap encI.f [a98]).length true (List.length [a98]) (List.length [a98]))]) (p := 0) rfl) (yG (_::_::_::_::_::(seg encI wsn3 items ++ C)) rfl (TD2.less (Pk.less (Pk.pick (p := 0) rfl (Pk.pick (p := 1) rfl (Pk.pick (p := 1) rfl (Pk.pick (p := 1) rfl (Pk.pick (p := 0) rfl Pk.refl)))))) (yG (_::_::_::_::(seg encI [(.slice v100 0 (List.flatMap encI.f [a98]).length true (List.length [a98]) (List.length [a98]))] [[a98]] ++ (seg encI wsn3 items ++ C))) rfl ?_))))))
       obtain ⟨hk103, h⟩ := chk_some h;refine TD2.fact (nest_len (p := 1) rfl) (fun hl103=>TD2.fact (nest_len (p := 0) rfl) (fun hm103=>TD2.heavy (fun v => sameC_refl v) rfl (by decide) rfl rfl (OpS.eff (Eff.append_nest (b := 24) (ls := items) (ls2 := [[a98]]) (p := 1) (q := 0) ⟨rfl, rfl, rfl, ⟨_, rfl, rfl⟩, by decide, by decide⟩ rfl rfl rfl rfl rfl rfl (seg_ones (en := encI) hm103 (fun x hx => M4 x (List.mem_append_left _ hx))) (by decide) hk103)) ?_));rintro v103 _ rfl;refine ⟨(all_cons (.inl (by kernel_rfl)) (all_cons (.inl (by kernel_rfl)) (all_cons (.inl (by kernel_rfl)) all_nil))), (all_cons (.inl (by kernel_rfl)) (all_cons (.inl (by kernel_rfl)) all_nil)), ?_⟩;refine yG ([nestH false (.slice v102_2 0 (List.flatMap encAV.f [(.slice v100 0 (List.flatMap encI.f [a98]).length true (List.length [a98]) (List.length [a98]))]).length true (List.length [(.slice v100 0 (List.flatMap encI.f [a98]).length true (List.length [a98]) (List.length [a98]))]) (List.length [(.slice v100 0 (List.flatMap encI.f [a98]).length true (List.length [a98]) (List.length [a98]))])) [[a98]] [(.slice v100 0 (List.flatMap encI.f [a98]).length true (List.length [a98]) (List.length [a98]))], nestH true v103 (items ++ [[a98]]) (wsn3 ++ [(.slice v100 0 (List.flatMap encI.f [a98]).length true (List.length [a98]) (List.length [a98]))]), .row b5 7 [(GSo y31_2 encI y31).v, (GSo y31_4 encI y31_3).v, iv (y31_5), (GSo y31_7 encI y31_6).v, (GSo y31_9 encI y31_8).v, (GSo y31_11 encI y31_10).v, iv (y31_12)], .row b1 3 [iv (c_Book_Signed), v_c_Book_Gatherings, v_c_Items]] ++ (seg encI [(.slice v100 0 (List.flatMap encI.f [a98]).length true (List.length [a98]) (List.length [a98]))] [[a98]] ++ (seg encI wsn3 items ++ C))) rfl (TD2.less (Less.cat [nestH false (.slice v102_2 0 (List.flatMap encAV.f [(.slice v100 0 (List.flatMap encI.f [a98]).length true (List.length [a98]) (List.length [a98]))]).length true (List.length [(.slice v100 0 (List.flatMap encI.f [a98]).length true (List.length [a98]) (List.length [a98]))]) (List.length [(.slice v100 0 (List.flatMap encI.f [a98]).length true (List.length [a98]) (List.length [a98]))])) [[a98]] [(.slice v100 0 (List.flatMap encI.f [a98]).length true (List.length [a98]) (List.length [a98]))], nestH true v103 (items ++ [[a98]]) (wsn3 ++ [(.slice v100 0 (List.flatMap encI.f [a98]).length true (List.length [a98]) (List.length [a98]))]), .row b5 7 [(GSo y31_2 encI y31).v, (GSo y31_4 encI y31_3).v, iv (y31_5), (GSo y31_7 encI y31_6).v, (GSo y31_9 encI y31_8).v, (GSo y31_11 encI y31_10).v, iv (y31_12)], .row b1 3 [iv (c_Book_Signed), v_c_Book_Gatherings, v_c_Items]] hl103) ?_);refine yG (_::_::_::_::(seg encI (wsn3 ++ [(.slice v100 0 (List.flatMap encI.f [a98]).length true (List.length [a98]) (List.length [a98]))]) (items ++ [[a98]]) ++ C)) rfl (yM R4 (Val.assign rfl) (TD2.nil ?_));cases h;exact ⟨rfl, (v103, wsn3 ++ [(.slice v100 0 (List.flatMap encI.f [a98]).length true (List.length [a98]) (List.length [a98]))]), (sb (pk [1,1,1,98] rfl))⟩
     ·rintro items_2 ⟨vn3_2, wsn3_2⟩ h;dsimp only;refine zT rfl (zM R4 ?_);obtain ⟨hk54, h⟩ := chk_some h;refine zV R3 (Val.add rfl rfl hk54) (zA R4 (zN ?_));cases h;exact ⟨rfl, (vn3_2, wsn3_2), (sb .refl)⟩
    refine zD rfl (zE ?_);cases h;exact ⟨ex_ne, ⟨rfl, (vn3, wsn3), (sb .refl)⟩⟩
   ·rintro items ⟨vn3, wsn3⟩ h;dsimp only;refine zU rfl (zF 0 R6 (zV R3 (vW 2 [_,_] R5 R4) (zM R4 (TO.fact (own_cellS (p := 0) rfl) (fun hotnt3=>zV R3 (Val.buildC (cs := [_, _, _]) (vs := [(_, _), (_, _)]) (ws := [(_, [_, _]), (_, [_])]) rfl rfl (CellsL.cons rfl (CellsL.cons hotnt3.1 CellsL.nil)) rfl) ?_)))));obtain ⟨⟨y109, y109_2, y109_3, y109_4, y109_5, y109_6, y109_7, y109_8, y109_9, y109_10, y109_11, y109_12, y109_13⟩, hr109, h⟩ := andx_some h;dsimp only at h;obtain ⟨g_7, hgg_7, hrg_7⟩ := Rdl.reif (hs := nestH true vn3 items wsn3 :: .row b5 7 [(GSo y31_2 encI y31).v, (GSo y31_4 encI y31_3).v, iv (y31_5), (GSo y31_7 encI y31_6).v, (GSo y31_9 encI y31_8).v, (GSo y31_11 encI y31_10).v, iv (y31_12)] :: .row b1 3 [iv (c_Book_Signed), v_c_Book_Gatherings, v_c_Items] :: (seg encI wsn3 items ++ C)) h_c_Book_Gatherings (memS (memS (memS (memG mem0)))) (ReifL.flat encG_tr);refine TO.call rfl rfl rfl rfl rfl (orcL rfl aD) (.cons (.agg (.cons .lit (.cons (hrg_7 _) (.cons (Reif.nestIt (p := 0) rfl (fun x hx => M3 x (List.mem_append_left _ hx))) .nil)))) .nil) (sem_of (w_c_Faults c_Book_Signed g_7 (GSo true encIt (List.map (fun x => (⟨GSo true encI x⟩ : Item)) items)) _ (by try rw [hgg_7]; exact hr109))) (zM R4 (zX R5 (zX R5 (zJ 7 [_,_,_,_,_,_,_] R7 (fun b9=>TO.eff0 rfl rfl (Eff.store_row (p := 0) (cv := [_, _, _, _, _, _, _]) (cells' := [_, _, _, _, _, _, _]) rfl rfl rfl rfl rfl rfl rfl rfl aG (by decide) rfl) ?_)))));rintro _ rfl;refine zG (_::_::_::_::(seg encI wsn3 items ++ C)) rfl (zA R4 (zN ?_))
    show T _ _ _ _ _ _;apply T.joinA (r := r) (W := Unit) (fun j w => ⟨[], [(2, bv j)], .row b9 7 [(GSo y109_2 encI y109).v, (GSo y109_4 encI y109_3).v, iv (y109_5), (GSo y109_7 encI y109_6).v, (GSo y109_9 encI y109_8).v, (GSo y109_11 encI y109_10).v, iv (y109_12)] :: nestH true vn3 items wsn3 :: .row b5 7 [(GSo y31_2 encI y31).v, (GSo y31_4 encI y31_3).v, iv (y31_5), (GSo y31_7 encI y31_6).v, (GSo y31_9 encI y31_8).v, (GSo y31_11 encI y31_10).v, iv (y31_12)] :: .row b1 3 [iv (c_Book_Signed), v_c_Book_Gatherings, v_c_Items] :: (seg encI wsn3 items ++ C)⟩) h
    ·intro j h;refine zT rfl (zM R4 ?_);obtain ⟨c113, hc113⟩ := zY (y109_13 = 0);refine zV R3 (Val.eql hc113 rfl rfl) (zM R4 ?_);obtain ⟨rfl, hc113, h⟩ | ⟨rfl, hc113, h⟩ := zI hc113 h
     ·refine zF 1 R6 (zL 0 R3 R6 (zF 1 R6 (zL 2 R3 R6 ?_)));obtain ⟨same119, hr119, h⟩ := andx_some h;refine TO.call rfl rfl rfl rfl rfl (orcL rfl aD) (.cons .gs (.cons .gs .nil)) (sem_of (w_r1_Ints (GSo y109_4 encI y109_3) (GSo y31_4 encI y31_3) _ (by exact hr119))) (zP R6 (zM R4 ?_));obtain ⟨rfl, h⟩ | ⟨rfl, h⟩ := zZ h
      ·refine zF 2 R6 (zL 0 R3 R6 (zF 2 R6 (zL 2 R3 R6 ?_)));obtain ⟨c126, hc126⟩ := zY (y109_5 = y31_5);refine zV R3 (Val.eql hc126 rfl rfl) (zP R6 (zM R4 ?_));obtain ⟨rfl, hc126, h⟩ | ⟨rfl, hc126, h⟩ := zI hc126 h
       ·refine zF 6 R6 (zL 0 R3 R6 (zF 2 R6 (zL 0 R3 R6 ?_)));obtain ⟨c133, hc133⟩ := zY (y109_12 = y109_5);refine zV R3 (Val.eql hc133 rfl rfl) (zP R6 (zM R4 ?_));obtain ⟨rfl, hc133, h⟩ | ⟨rfl, hc133, h⟩ := zI hc133 h
        ·refine zF 3 R6 (zL 0 R3 R6 (zV R3 (Val.len_gs rfl rfl) (zF 4 R6 (zL 0 R3 R6 (zV R3 (Val.len_gs rfl rfl) ?_)))));obtain ⟨hk142, h⟩ := chk_some h;refine zV R3 (Val.add rfl rfl hk142) (zF 5 R6 (zL 0 R3 R6 (zV R3 (Val.len_gs rfl rfl) ?_)));obtain ⟨hk146, h⟩ := chk_some h;refine zV R3 (Val.add rfl rfl hk146) ?_;obtain ⟨c147, hc147⟩ := zY ((((((GSo y109_7 encI y109_6).l).length : Int) + (((GSo y109_9 encI y109_8).l).length : Int)) + (((GSo y109_11 encI y109_10).l).length : Int)) = 0);refine zV R3 (Val.eql hc147 rfl rfl) (zP R6 (zM R4 ?_));obtain ⟨rfl, hc147, h⟩ | ⟨rfl, hc147, h⟩ := zI hc147 h
         ·refine TO.call rfl rfl rfl rfl rfl orcA .nil rfl (zP R6 (zA R4 (zN ?_)));cases h;exact ⟨rfl, (), (sb .refl)⟩
         refine zO R3 (zP R6 (zA R4 (zN ?_)));cases h;exact ⟨rfl, (), (sb .refl)⟩
        refine zO R3 (zO R3 (zO R3 (zO R3 (zO R3 (zO R3 (zO R3 (zO R3 (zO R3 (zO R3 (zO R3 (zO R3 (zP R6 (zM R4 (zO R3 (zP R6 (zA R4 (zN ?_)))))))))))))))));cases h;exact ⟨rfl, (), (sb .refl)⟩
       refine zO R3 (zO R3 (zO R3 (zO R3 (zO R3 (zP R6 (zM R4 (zO R3 (zO R3 (zO R3 (zO R3 (zO R3 (zO R3 (zO R3 (zO R3 (zO R3 (zO R3 (zO R3 (zO R3 (zP R6 (zM R4 (zO R3 (zP R6 (zA R4 (zN ?_))))))))))))))))))))))));cases h;exact ⟨rfl, (), (sb .refl)⟩
      refine zO R3 (zO R3 (zO R3 (zO R3 (zO R3 (zP R6 (zM R4 (zO R3 (zO R3 (zO R3 (zO R3 (zO R3 (zP R6 (zM R4 (zO R3 (zO R3 (zO R3 (zO R3 (zO R3 (zO R3 (zO R3 (zO R3 (zO R3 (zO R3 (zO R3 (zO R3 (zP R6 (zM R4 (zO R3 (zP R6 (zA R4 (zN ?_)))))))))))))))))))))))))))))));cases h;exact ⟨rfl, (), (sb .refl)⟩
     refine zO R3 (zO R3 (zO R3 (zO R3 (zO R3 (zP R6 (zM R4 (zO R3 (zO R3 (zO R3 (zO R3 (zO R3 (zP R6 (zM R4 (zO R3 (zO R3 (zO R3 (zO R3 (zO R3 (zP R6 (zM R4 (zO R3 (zO R3 (zO R3 (zO R3 (zO R3 (zO R3 (zO R3 (zO R3 (zO R3 (zO R3 (zO R3 (zO R3 (zP R6 (zM R4 (zO R3 (zP R6 (zA R4 (zN ?_))))))))))))))))))))))))))))))))))))));cases h;exact ⟨rfl, (), (sb .refl)⟩
    ·rintro x2 _ h;refine zR ?_;cases h;exact ⟨rfl, _, rfl, ⟨(), rfl, (.drop (.drop (.drop (.drop (.dropA .refl)))))⟩⟩
 refine zC rfl ?_
 show T _ _ _ _ _ _;apply T.joinA (r := r) (W := Unit) (fun j w => ⟨[], [(2, bv j)], .row b1 3 [iv (c_Book_Signed), v_c_Book_Gatherings, v_c_Items] :: C⟩) h
 ·intro j h;refine zT rfl (zM R4 ?_);obtain ⟨c20, hc20⟩ := zY (¬ y13_2 = 0);refine zV R3 (Val.neq hc20 rfl rfl) (zM R4 ?_);obtain ⟨rfl, hc20, h⟩ | ⟨rfl, hc20, h⟩ := zI hc20 h
  ·refine zM R4 (zV R3 (Val.len_gs rfl rfl) ?_);obtain ⟨c24, hc24⟩ := zY ((y13.length : Int) = 0);refine zV R3 (Val.eql hc24 rfl rfl) (zP R6 (zM R4 ?_));obtain ⟨rfl, hc24, h⟩ | ⟨rfl, hc24, h⟩ := zI hc24 h
   ·refine TO.call rfl rfl rfl rfl rfl orcA .nil rfl (zP R6 (zA R4 (zN ?_)));cases h;exact ⟨rfl, (), (sb .refl)⟩
   refine zO R3 (zP R6 (zA R4 (zN ?_)));cases h;exact ⟨rfl, (), (sb .refl)⟩
  refine zO R3 (zO R3 (zO R3 (zP R6 (zM R4 (zO R3 (zP R6 (zA R4 (zN ?_))))))));cases h;exact ⟨rfl, (), (sb .refl)⟩
 ·rintro x2 _ h;refine zR ?_;cases h;exact ⟨rfl, _, rfl, ⟨(), rfl, (pk [98] rfl)⟩⟩
theorem w_law_CopyBound (c_Book_Signed : Int) (c_Book_Gatherings : GS encG) (c_Items : GS encIt) (r : Bool) (h : P_law_CopyBound c_Book_Signed c_Book_Gatherings.l c_Items.l = some r) : Comes (EL 7) 7 [.agg [iv (c_Book_Signed), c_Book_Gatherings.v, c_Items.v]] (bv r) :=
 TF.run (tf_law_CopyBound (Nat.le_refl _) (RdT.gs c_Book_Gatherings) (RdT.gs c_Items) h) fun w => .lit
end Go.Am.Ythckcbfijdambaa
end
section
namespace Go.Am
open Go.RowKit
def Lifts (P : Program) (t : TypeId) {α : Type} (e : En α) : Prop :=
 ∀ (H : Type) (enc : TypeId × Value → H) (W : World) (base : Nat) (held : Bool) (fuel : Nat) (cs : List Value) (x : DataW H × List MemPlace),
  DataW.trod enc P W base (fun _ => true) held fuel t cs = some x → ∃ a : α, RelL (snapR W 0) (e.f a) cs
theorem Lifts.int {P : Program} {t : TypeId} (ht : P.underlying t = some (.int .i64)) : Lifts P t encI := by
 intro H enc W base held fuel cs x hx;obtain ⟨n, rfl, _, _⟩ := DataW.trod_int ht hx;exact ⟨n, .cons (.lit _) (.nil _)⟩
theorem snap_cell {W : World} {b off : Nat} {v : Value} (h : W.cell? ⟨b, off, none⟩ = some v) : ∃ c, (snapR W 0).imm b = some c ∧ c[off]? = some v := by
 unfold World.cell? at h;split at h
 ·rename_i c _ _ hb
  simp at h;exact ⟨c, by simp only [snapR, snap, Nat.zero_le, if_true]; simp only [] at hb; rw [hb], h⟩
 ·cases h
theorem list_of {α : Type} {p : Nat → α → Prop} : ∀ n : Nat, (∀ i, i < n → ∃ a, p i a) → ∃ l : List α, l.length = n ∧ ∀ i a, l[i]? = some a → p i a := by
 intro n
 induction n with
 | zero => intro _; exact ⟨[], rfl, fun i a h => by simp at h⟩
 | succ n ih =>
  intro h;obtain ⟨l, h1, h2⟩ := ih fun i hi => h i (by omega)
  obtain ⟨a, ha⟩ := h n (by omega);refine ⟨l ++ [a], by simp [h1], fun i b hb => ?_⟩
  by_cases hi : i < l.length
  ·rw [List.getElem?_append_left hi] at hb; exact h2 i b hb
  ·rw [List.getElem?_append_right (by omega)] at hb
   have : i - l.length = 0 := by
    have := (List.getElem?_eq_some_iff.1 hb).1;simp at this; omega
   rw [this] at hb;simp at hb;subst hb
   have : i = n := by omega
   rw [this]; exact ha
theorem Lifts.slice {P : Program} {t e : TypeId} {α : Type} {en : En α} (ht : P.underlying t = some (.slice e)) (hu : P.cellsOf e = en.u) (h0 : 0 < en.u) (h : Lifts P e en) : Lifts P t (encSl en) := by
 intro H enc W base held fuel cs x hx
 rcases DataW.trod_slice ht hx with ⟨rfl, _⟩ | ⟨a, len, cap, elems, rest, n, _, rfl, _, hb, hl, _, hlen, hel, hsp, _⟩
 ·exact ⟨⟨nilS, [], .inl ⟨rfl, rfl, rfl⟩⟩, .cons (.lit _) (.nil _)⟩
 ·rw [hu] at hel hsp;obtain ⟨hrl, hr⟩ := hsp rfl
  by_cases hc : cap = 0
  ·subst hc
   have : len = 0 := by omega
   subst this;exact ⟨⟨.tree en.u 0 [], [], .inr ⟨rfl, by simp⟩⟩, .cons .tree0 (.nil _)⟩
  ·have hcell : ∀ i, i < len → ∃ (a' : α) (ci : List Value), W.cells? base (a.add (i * en.u)) en.u = some ci ∧ RelL (snapR W 0) (en.f a') ci := by
    intro i hi
    have he := hel i hi;rw [List.getElem?_eq_getElem (by omega)] at he;obtain ⟨ci, h1, h2⟩ := Option.bind_eq_some_iff.1 he;obtain ⟨a', h3⟩ := h _ _ _ _ _ _ _ _ h2;exact ⟨a', ci, h1, h3⟩
   have hspot : a.spot = none := by
    have : ∃ ci, W.cells? base (a.add (0 * en.u)) en.u = some ci := by
     by_cases hl0 : 0 < len
     ·obtain ⟨_, ci, h1, _⟩ := hcell 0 hl0;exact ⟨ci, h1⟩
     ·have hz : len = 0 := by omega
      have he := hr 0 (by omega);rw [List.getElem?_eq_getElem (by omega)] at he;obtain ⟨ci, h1, _⟩ := Option.bind_eq_some_iff.1 he;exact ⟨ci, by simpa [hz] using h1⟩
    obtain ⟨ci, h1⟩ := this;obtain ⟨_, h2, h3⟩ := World.cells?_some h1
    have h4 := h3 0 h0;rw [List.getElem?_eq_getElem (by omega)] at h4
    have := World.cell?_spot h4
    simpa [Addr.add] using this
   obtain ⟨b, off, sp⟩ := a;simp only at hspot;subst hspot;obtain ⟨l, hl1, hl2⟩ := list_of (p := fun i a' => ∃ ci : List Value, W.cells? base ((⟨b, off, none⟩ : Addr).add (i * en.u)) en.u = some ci ∧ RelL (snapR W 0) (en.f a') ci) len hcell
   have hfl : (l.flatMap en.f).length = len * en.u := by rw [flat_len, hl1]
   have each : ∀ j, j < len * en.u → ∃ v y c, (l.flatMap en.f)[j]? = some v ∧ (snapR W 0).imm b = some c ∧ c[off + j]? = some y ∧ RelV (snapR W 0) v y := by
    intro j hj
    have hi : j / en.u < l.length := by rw [hl1]; exact Nat.div_lt_of_lt_mul (by rw [Nat.mul_comm]; exact hj)
    have hk : j % en.u < en.u := Nat.mod_lt _ h0
    have hd : j / en.u * en.u + j % en.u = j := by rw [Nat.mul_comm]; exact Nat.div_add_mod j en.u
    obtain ⟨ci, h1, h2⟩ := hl2 _ _ (List.getElem?_eq_getElem hi);obtain ⟨_, h3, h4⟩ := World.cells?_some h1
    have h5 := h4 _ hk;rw [List.getElem?_eq_getElem (by omega)] at h5
    have h6 : ((⟨b, off, none⟩ : Addr).add (j / en.u * en.u)).add (j % en.u) = ⟨b, off + j, none⟩ := by
     simp only [addr_add]
     congr 1
     omega
    rw [h6] at h5;obtain ⟨c, h7, h8⟩ := snap_cell h5
    have hlen' := en.len l[j / en.u]
    have hv := List.getElem?_eq_getElem (l := en.f l[j / en.u]) (i := j % en.u) (by omega);refine ⟨_, _, c, ?_, h7, h8, h2.2 _ _ _ hv (List.getElem?_eq_getElem _)⟩
    have := flat_get (en := en) (List.getElem?_eq_getElem hi) hk;rw [hd] at this;rw [this, hv]
   refine ⟨⟨.tree en.u l.length (l.flatMap en.f), l, .inr ⟨rfl, by rw [hfl, hl1]⟩⟩, .cons ?_ (.nil _)⟩
   show RelV _ (.tree en.u l.length (l.flatMap en.f)) _;rw [hl1]
   by_cases hz : len * en.u = 0
   ·refine .tree (c := #[]) hfl hl (.inl (List.eq_nil_of_length_eq_zero (by omega))) fun i v x hv hx => by simp at hx
   ·obtain ⟨_, _, c, _, hc1, _, _⟩ := each (len * en.u - 1) (by omega);refine .tree (c := c) hfl hl (.inr ⟨hc1, ?_⟩) fun j v y hv hy => ?_
    ·obtain ⟨_, _, c', _, hc2, hc3, _⟩ := each (len * en.u - 1) (by omega);rw [hc1] at hc2;cases hc2
     have := (Array.getElem?_eq_some_iff.1 hc3).1;omega
    ·have hj := (List.getElem?_eq_some_iff.1 hv).1;obtain ⟨v', y', c', e1, e2, e3, e4⟩ := each j (by omega);rw [hc1] at e2;cases e2;rw [hv] at e1;rw [hy] at e3;cases e1;cases e3;exact e4
theorem RelL.glue {r : Ren} {a b : List AV} {cs : List Value} {n : Nat} (h1 : RelL r a (cs.take n)) (h2 : RelL r b (cs.drop n)) : RelL r (a ++ b) cs := by
 have := h1.append h2
 rwa [List.take_append_drop] at this
end Go.Am
end
section
namespace Go.Am
open Go.RowKit
def enPair {α β : Type} (a : En α) (b : En β) : En (α × β) := ⟨a.u + b.u, fun p => a.f p.1 ++ b.f p.2, fun p => by simp [a.len, b.len]⟩
theorem Lifts.map {P : Program} {t : TypeId} {α β : Type} {a : En α} {b : En β} (h : Lifts P t a) (hf : ∀ x, ∃ y, b.f y = a.f x) : Lifts P t b := by
 intro H enc W base held fuel cs x hx;obtain ⟨v, hv⟩ := h _ _ _ _ _ _ _ _ hx;obtain ⟨y, hy⟩ := hf v;exact ⟨y, by rw [hy]; exact hv⟩
theorem Lifts.struct1 {P : Program} {t : TypeId} {f0 : Field} {α : Type} {a : En α} (ht : P.underlying t = some (.struct #[f0])) (o0 : f0.offset = 0) (c0 : P.cellsOf f0.type = a.u) (ct : P.cellsOf t = a.u)
  (l0 : Lifts P f0.type a) : Lifts P t a := by
 intro H enc W base held fuel cs x hx;obtain ⟨xs, n, _, _, hl, hn, h⟩ := DataW.trod_struct ht hx
 have hn1 : xs.length = 1 := hn
 have h0 := h 0 f0 rfl;rw [List.getElem?_eq_getElem (by omega), o0, c0, List.drop_zero, List.take_of_length_le (by omega)] at h0;exact l0 _ _ _ _ _ _ _ _ h0
theorem Lifts.struct2 {P : Program} {t : TypeId} {f0 f1 : Field} {α β : Type} {a : En α} {b : En β} (ht : P.underlying t = some (.struct #[f0, f1])) (o0 : f0.offset = 0) (o1 : f1.offset = a.u)
  (c0 : P.cellsOf f0.type = a.u) (c1 : P.cellsOf f1.type = b.u) (ct : P.cellsOf t = a.u + b.u) (l0 : Lifts P f0.type a) (l1 : Lifts P f1.type b) : Lifts P t (enPair a b) := by
 intro H enc W base held fuel cs x hx;obtain ⟨xs, n, _, _, hl, hn, h⟩ := DataW.trod_struct ht hx
 have hn1 : xs.length = 2 := hn
 have h0 := h 0 f0 rfl
 have h1 := h 1 f1 rfl;rw [List.getElem?_eq_getElem (by omega), o0, c0, List.drop_zero] at h0;rw [List.getElem?_eq_getElem (by omega), o1, c1, List.take_of_length_le (by simp; omega)] at h1;obtain ⟨x0, r0⟩ := l0 _ _ _ _ _ _ _ _ h0;obtain ⟨x1, r1⟩ := l1 _ _ _ _ _ _ _ _ h1;exact ⟨(x0, x1), .glue r0 r1⟩
theorem Lifts.struct3 {P : Program} {t : TypeId} {f0 f1 f2 : Field} {α β γ : Type} {a : En α} {b : En β} {c : En γ} (ht : P.underlying t = some (.struct #[f0, f1, f2])) (o0 : f0.offset = 0) (o1 : f1.offset = a.u) (o2 : f2.offset = a.u + b.u)
  (c0 : P.cellsOf f0.type = a.u) (c1 : P.cellsOf f1.type = b.u) (c2 : P.cellsOf f2.type = c.u) (ct : P.cellsOf t = a.u + (b.u + c.u)) (l0 : Lifts P f0.type a) (l1 : Lifts P f1.type b) (l2 : Lifts P f2.type c) :
  Lifts P t (enPair a (enPair b c)) := by
 intro H enc W base held fuel cs x hx;obtain ⟨xs, n, _, _, hl, hn, h⟩ := DataW.trod_struct ht hx
 have hn1 : xs.length = 3 := hn
 have h0 := h 0 f0 rfl
 have h1 := h 1 f1 rfl
 have h2 := h 2 f2 rfl;rw [List.getElem?_eq_getElem (by omega), o0, c0, List.drop_zero] at h0;rw [List.getElem?_eq_getElem (by omega), o1, c1] at h1;rw [List.getElem?_eq_getElem (by omega), o2, c2, ← List.drop_drop, List.take_of_length_le (by simp; omega)] at h2;obtain ⟨x0, r0⟩ := l0 _ _ _ _ _ _ _ _ h0;obtain ⟨x1, r1⟩ := l1 _ _ _ _ _ _ _ _ h1;obtain ⟨x2, r2⟩ := l2 _ _ _ _ _ _ _ _ h2;exact ⟨(x0, x1, x2), .glue r0 (.glue r1 r2)⟩
theorem Lifts.arg {P : Program} {t : TypeId} {fs : Array Field} {α : Type} {en : En α} (hl : Lifts P t en) (ht : P.underlying t = some (.struct fs)) {W : World} {r : Reach} {b0 : Nat} {v : Value} (hval : Value.okWide P W r b0 t v)
  {H : Type} {enc : TypeId × Value → H} {base : Nat} {held : Bool} {d : DataW H} {ps : List MemPlace} (h : DataW.Trod enc P W base (fun _ => true) held t v d ps) : ∃ a, RelV (snapR W 0) (.agg (en.f a)) v := by
 simp only [Value.okWide, ht] at hval;obtain ⟨cs, rfl, _, _⟩ := hval;obtain ⟨fuel, hf⟩ := h;obtain ⟨a, ha⟩ := hl _ _ _ _ _ _ _ _ hf;exact ⟨a, by simpa [Value.cells] using RelV.agg ha.1 ha.2⟩
end Go.Am
end
section
namespace Go.Am
open Go.RowKit
set_option linter.unusedVariables false
def encU16 : En UInt16 := ⟨1, fun b => [ivk .u16 (b.toNat : Int)], fun _ => rfl⟩
theorem Lifts.u8 {P : Program} {t : TypeId} (ht : P.underlying t = some (.int .u8)) : Lifts P t encU8 := by
 intro H enc W base held fuel cs x hx;obtain ⟨n, rfl, _, hw⟩ := DataW.trod_int ht hx
 have hw : 0 ≤ n ∧ n ≤ 255 := by
  have := Bool.and_eq_true_iff.1 hw;exact ⟨of_decide_eq_true this.1, of_decide_eq_true this.2⟩
 have e : ((UInt8.ofNat n.toNat).toNat : Int) = n := by rw [UInt8.toNat_ofNat']; omega
 refine ⟨UInt8.ofNat n.toNat, .cons ?_ (.nil _)⟩;rw [e];exact .lit _
theorem Lifts.u16 {P : Program} {t : TypeId} (ht : P.underlying t = some (.int .u16)) : Lifts P t encU16 := by
 intro H enc W base held fuel cs x hx;obtain ⟨n, rfl, _, hw⟩ := DataW.trod_int ht hx
 have hw : 0 ≤ n ∧ n ≤ 65535 := by
  have := Bool.and_eq_true_iff.1 hw;exact ⟨of_decide_eq_true this.1, of_decide_eq_true this.2⟩
 have e : ((UInt16.ofNat n.toNat).toNat : Int) = n := by rw [UInt16.toNat_ofNat']; omega
 refine ⟨UInt16.ofNat n.toNat, .cons ?_ (.nil _)⟩;rw [e];exact .lit _
theorem Lifts.arr2 {P : Program} {t e : TypeId} {α : Type} {a : En α} (ht : P.underlying t = some (.array 2 e)) (ce : P.cellsOf e = a.u) (ct : P.cellsOf t = a.u + a.u) (hu : a.u = 1) (l : Lifts P e a) : Lifts P t (enPair a a) := by
 intro H enc W base held fuel cs x hx;obtain ⟨xs, n, _, _, hl, hn, h⟩ := DataW.trod_array ht hx
 have h0 := h 0 (by omega)
 have h1 := h 1 (by omega);rw [List.getElem?_eq_getElem (by omega), ce, Nat.zero_mul, List.drop_zero] at h0;rw [List.getElem?_eq_getElem (by omega), ce, Nat.one_mul, List.take_of_length_le (by simp; omega)] at h1;obtain ⟨x0, r0⟩ := l _ _ _ _ _ _ _ _ h0;obtain ⟨x1, r1⟩ := l _ _ _ _ _ _ _ _ h1;exact ⟨(x0, x1), .glue r0 r1⟩
end Go.Am
end
section
namespace Go.Am.Ythckcbfijdambaa
open Go.Am Go.RowKit Go.Proofs
theorem li_3 : Lifts Try.prog 3 encI := .int Try.underlying3
theorem li_96 : Lifts Try.prog 96 (enPair encI encI) := Lifts.struct2 Try.underlying96 rfl rfl (by kernel_rfl) (by kernel_rfl) (by kernel_rfl) li_3 li_3
theorem li_131 : Lifts Try.prog 131 encC := (Lifts.struct3 Try.underlying131 rfl rfl rfl (by kernel_rfl) (by kernel_rfl) (by kernel_rfl) (by kernel_rfl) li_3 li_3 li_3).map fun x => ⟨⟨x.1, x.2.1, x.2.2⟩, rfl⟩
theorem li_97 : Lifts Try.prog 97 (encSl encC) := .slice Try.underlying97 (by kernel_rfl) (by decide) li_131
theorem li_99 : Lifts Try.prog 99 encG := (Lifts.struct3 Try.underlying99 rfl rfl rfl (by kernel_rfl) (by kernel_rfl) (by kernel_rfl) (by kernel_rfl) li_96 li_3 li_97).map fun x => ⟨⟨x.1.1, x.1.2, x.2.1, x.2.2⟩, rfl⟩
theorem li_22 : Lifts Try.prog 22 (encSl encG) := .slice Try.underlying22 (by kernel_rfl) (by decide) li_99
theorem li_24 : Lifts Try.prog 24 encB := (Lifts.struct2 Try.underlying24 rfl rfl (by kernel_rfl) (by kernel_rfl) (by kernel_rfl) li_3 li_22).map fun x => ⟨⟨x.1, x.2⟩, rfl⟩
theorem li_26 : Lifts Try.prog 26 (encSl encI) := .slice Try.underlying26 (by kernel_rfl) (by decide) li_3
theorem li_53 : Lifts Try.prog 53 encIt := (Lifts.struct1 Try.underlying53 rfl (by kernel_rfl) (by kernel_rfl) li_26).map fun x => ⟨⟨x⟩, rfl⟩
theorem li_25 : Lifts Try.prog 25 (encSl encIt) := .slice Try.underlying25 (by kernel_rfl) (by decide) li_53
theorem li_36 : Lifts Try.prog 36 encCa := (Lifts.struct2 Try.underlying36 rfl rfl (by kernel_rfl) (by kernel_rfl) (by kernel_rfl) li_24 li_25).map fun x => ⟨⟨x.1, x.2⟩, rfl⟩
theorem li_44 : Lifts Try.prog 44 encU16 := .u16 Try.underlying44
theorem li_62 : Lifts Try.prog 62 (enPair encU16 encU16) := .arr2 Try.underlying62 (by kernel_rfl) (by kernel_rfl) rfl li_44
theorem li_74 : Lifts Try.prog 74 (enPair (encSl encIt) (encSl encIt)) := Lifts.struct2 Try.underlying74 rfl rfl (by kernel_rfl) (by kernel_rfl) (by kernel_rfl) li_25 li_25
theorem li_5 : Lifts Try.prog 5 encU8 := .u8 Try.underlying5
theorem li_75 : Lifts Try.prog 75 (encSl encU8) := .slice Try.underlying75 (by kernel_rfl) (by decide) li_5
end Go.Am.Ythckcbfijdambaa
end
section
namespace Go.Am
set_option linter.unusedVariables false
theorem i64_small {x : Int} (h : -4000000000000000000 ≤ x ∧ x ≤ 4000000000000000000) : I64 x := by unfold I64; omega
section
variable {σ ε J A β : Type}
theorem Ok.ifp {p : Prop} [Decidable p] {x y : Option β} {Q : β → Prop} (h : p) (hx : Ok x Q) : Ok (if p then x else y) Q := by rw [if_pos h]; exact hx
theorem Ok.ifn {p : Prop} [Decidable p] {x y : Option β} {Q : β → Prop} (h : ¬ p) (hy : Ok y Q) : Ok (if p then x else y) Q := by rw [if_neg h]; exact hy
theorem Ok.eq {x : Option β} {a : β} {Q : β → Prop} (h : x = Option.some a) (hq : Q a) : Ok x Q := ⟨a, h, hq⟩
theorem Ok.andx' {x : Option J} {k : J → Option β} {a : J} {Q : β → Prop} (h : x = Option.some a) (hk : Ok (k a) Q) : Ok (Am.andx x k) Q := by subst h; exact hk
def CountQ (idx : σ → Int) (I : Nat → σ → Prop) (k : Nat) (Q : ε → Prop) : Stp σ ε → Prop
 | .ag s => idx s = k + 1 ∧ I (k + 1) s
 | .dn e => Q e
def FinQ (Q : ε → Prop) : Stp σ ε → Prop
 | .ag _ => False
 | .dn e => Q e
theorem Ok.count (idx : σ → Int) (n : Nat) (I : Nat → σ → Prop) {body : σ → Option (Stp σ ε)} {s0 : σ} {Q : ε → Prop} (h0 : idx s0 = 0) (hI : I 0 s0)
  (step : ∀ k s, k < n → idx s = k → I k s → Ok (body s) (CountQ idx I k Q)) (fin : ∀ s, idx s = n → I n s → Ok (body s) (FinQ Q)) : Ok (Am.iter body s0) Q := by
 refine Ok.iter (fun s => ∃ k : Nat, k ≤ n ∧ idx s = k ∧ I k s) (fun s => n - (idx s).toNat) ⟨0, Nat.zero_le _, h0, hI⟩ ?_;rintro s ⟨k, hk, hx, hi⟩
 by_cases hlt : k < n
 ·refine (step k s hlt hx hi).mono fun x hq => ?_
  cases x with
  | ag s' =>
   have h1 : idx s' = k + 1 := hq.1;exact ⟨⟨k + 1, by omega, by rw [h1]; rfl, hq.2⟩, by show n - (idx s').toNat < n - (idx s).toNat; rw [h1, hx]; omega⟩
  | dn e => exact hq
 ·have : k = n := by omega
  subst this;refine (fin s hx hi).mono fun x hq => ?_
  cases x with
  | ag s' => exact hq.elim
  | dn e => exact hq
end
theorem get_of {α : Type} {l : List α} {k : Nat} {i : Int} {a : α} (h : l[i.toNat]? = some a) (hi : i = k) : l[k]? = some a := by rw [hi] at h; simpa using h
end Go.Am
end
section
namespace Go.Am
def cntOf (t : List Int) : Int → Int := fun x => ((t.countP fun y => decide (y = x) : Nat) : Int)
theorem cntOf_snoc (t : List Int) (n : Int) : cntOf (t ++ [n]) = putI (cntOf t) n (cntOf t n + 1) := by
 funext x
 unfold cntOf putI;rw [List.countP_append]
 by_cases h : x = n
 ·subst h; simp
 ·have : ¬ n = x := fun e => h e.symm
  simp [h, this]
theorem cntOf_le (t : List Int) (x : Int) : 0 ≤ cntOf t x ∧ cntOf t x ≤ t.length := by
 unfold cntOf
 have := List.countP_le_length (p := fun y => decide (y = x)) (l := t);omega
theorem cntOf_pos (t : List Int) (x : Int) : 0 < cntOf t x ↔ x ∈ t := by
 unfold cntOf;rw [show (0 < ((t.countP fun y => decide (y = x) : Nat) : Int)) ↔ 0 < t.countP fun y => decide (y = x) by omega, List.countP_pos_iff];simp
theorem cntOf_zero (t : List Int) (x : Int) : cntOf t x = 0 ↔ x ∉ t := by
 have := cntOf_pos t x
 have := (cntOf_le t x).1
 constructor
 ·intro h hx; have := (cntOf_pos t x).2 hx; omega
 ·intro h; have : ¬ 0 < cntOf t x := fun k => h ((cntOf_pos t x).1 k); omega
theorem there_ok {s : Int} {g : List Gat} {its : List Item} {lv : List Leaf} {mt t : List Int} (ht : t.length ≤ 1000000) : P_c_there s g its lv mt t = some (cntOf t) := by
 refine Ok.get ?_;unfold P_c_there;refine Ok.andx (P := fun f => f = cntOf t) (Ok.count Prod.fst t.length (fun k s => s.2 = cntOf (t.take k)) rfl rfl ?_ ?_) fun _ h => .some h
 ·rintro k ⟨x, f⟩ hk hx hf;simp only at hx hf;subst hf;unfold P_c_there_L1;refine .ifp (by omega) (.el (by omega) fun a ha => ?_)
  have ha := get_of ha hx
  have := cntOf_le (t.take k) a
  have : (t.take k).length ≤ t.length := by rw [List.length_take]; omega
  refine .chk (i64_small (by omega)) (.chk (i64_small (by omega)) (.some ⟨by simp only; omega, ?_⟩))
  show _ = cntOf (t.take (k + 1));rw [take_snoc ha, cntOf_snoc]
 ·rintro ⟨x, f⟩ hx hf;simp only at hx hf;unfold P_c_there_L1;refine .ifn (by omega) (.some ?_)
  show _ = _;rw [hf, List.take_length]
def lostOf (n : Nat) (t : List Int) : List Int := ((List.range n).map fun i : Nat => (i : Int)).filter fun x => decide (x ∉ t)
theorem lostOf_succ (n : Nat) (t : List Int) : lostOf (n + 1) t = if (n : Int) ∉ t then lostOf n t ++ [(n : Int)] else lostOf n t := by
 unfold lostOf;rw [List.range_succ, List.map_append, List.filter_append]
 by_cases h : (n : Int) ∈ t <;> simp [h]
theorem lostOf_len (n : Nat) (t : List Int) : (lostOf n t).length ≤ n := by
 unfold lostOf;exact Nat.le_trans (List.length_filter_le _ _) (by simp)
theorem lost_ok {s : Int} {g : List Gat} {its : List Item} {lv : List Leaf} {mt t : List Int} (ht : t.length ≤ 1000000) (hl : lv.length ≤ 1000000) : P_c_lost s g its lv mt t = some (lostOf lv.length t) := by
 refine Ok.get ?_;unfold P_c_lost;refine .andx' (there_ok ht) ?_;refine Ok.andx (P := fun l => l = lostOf lv.length t) (Ok.count Prod.fst lv.length (fun k s => s.2 = lostOf k t) rfl rfl ?_ ?_) fun _ h => .some h
 ·rintro k ⟨x, l⟩ hk hx hl';simp only at hx hl';subst hl'
  have hlen := lostOf_len k t;unfold P_c_lost_L1;refine .ifp (by omega) (Ok.andx (P := fun l => l = lostOf (k + 1) t) ?_ ?_)
  ·refine .ite (fun hc => ?_) (fun hc => ?_)
   ·refine .chk (by simp; omega) (.some ?_)
    show _ = _;rw [lostOf_succ, if_pos (by rw [← hx]; exact (cntOf_zero t x).1 hc), hx]
   ·refine .some ?_
    show _ = _;rw [lostOf_succ, if_neg (by rw [← hx]; exact fun h => hc ((cntOf_zero t x).2 h))]
  ·rintro l' rfl;exact .chk (i64_small (by omega)) (.some ⟨by simp only; omega, rfl⟩)
 ·rintro ⟨x, l⟩ hx hl';simp only at hx hl';unfold P_c_lost_L1;exact .ifn (by omega) (.some hl')
end Go.Am
end
section
namespace Go.Am
set_option linter.unusedVariables false
def idxTo (p : Nat → Int → Bool) (t : List Int) : Nat → List Int
 | 0 => []
 | k + 1 => idxTo p t k ++ (match t[k]? with | some n => if p k n = true then [(k : Int)] else [] | none => [])
theorem idxTo_succ {p : Nat → Int → Bool} {t : List Int} {k : Nat} {n : Int} (h : t[k]? = some n) : idxTo p t (k + 1) = if p k n = true then idxTo p t k ++ [(k : Int)] else idxTo p t k := by
 rw [idxTo, h];simp only;split <;> simp
theorem idxTo_len (p : Nat → Int → Bool) (t : List Int) : ∀ k, (idxTo p t k).length ≤ k := by
 intro k
 induction k with
 | zero => simp [idxTo]
 | succ k ih =>
  rw [idxTo, List.length_append];split
  ·split <;> simp <;> omega
  ·simp; omega
def isPlain (t : List Int) (k : Nat) (n : Int) : Bool := decide (0 ≤ n ∧ n ∉ t.take k)
def isStrange (k : Nat) (n : Int) : Bool := decide (n < 0)
def isTwice (t : List Int) (k : Nat) (n : Int) : Bool := decide (0 ≤ n ∧ n ∈ t.take k)
def strangeOf (t : List Int) : List Int := idxTo isStrange t t.length
def twiceOf (t : List Int) : List Int := idxTo (isTwice t) t t.length
def gathOf (lv : List Leaf) (x : Int) : Int := match lv[x.toNat]? with | some a => a.g | none => 0
def rnStep (g : Int → Int) (l : List S_copy_run) (i n : Int) : List S_copy_run :=
 match l[l.length - 1]? with
 | some r => if r.last < n ∧ g r.last = g n then l.set (l.length - 1) ⟨r.item, r.first, n⟩ else l ++ [⟨i, n, n⟩]
 | none => l ++ [⟨i, n, n⟩]
def runsTo (g : Int → Int) (t : List Int) : Nat → List S_copy_run
 | 0 => []
 | k + 1 => match t[k]? with | some n => if isPlain t k n = true then rnStep g (runsTo g t k) k n else runsTo g t k | none => runsTo g t k
def runsOf (g : Int → Int) (t : List Int) : List S_copy_run := runsTo g t t.length
def RunOk (n : Nat) (r : S_copy_run) : Prop := 0 ≤ r.first ∧ r.first < n ∧ 0 ≤ r.last ∧ r.last < n
theorem rnStep_ok {g : Int → Int} {l : List S_copy_run} {i n : Int} {N : Nat} (h : ∀ r ∈ l, RunOk N r) (hn : 0 ≤ n ∧ n < N) : ∀ r ∈ rnStep g l i n, RunOk N r := by
 unfold rnStep
 have happ : ∀ r ∈ l ++ [(⟨i, n, n⟩ : S_copy_run)], RunOk N r := fun r hr => by
  rcases List.mem_append.1 hr with hr | hr
  ·exact h r hr
  ·rw [List.mem_singleton] at hr;subst hr;exact ⟨hn.1, hn.2, hn.1, hn.2⟩
 split
 ·rename_i r hr
  split
  ·intro x hx
   rcases List.mem_or_eq_of_mem_set hx with hx | rfl
   ·exact h x hx
   ·have := h r (List.mem_of_getElem? hr);exact ⟨this.1, this.2.1, hn.1, hn.2⟩
  ·exact happ
 ·exact happ
theorem rnStep_len {g : Int → Int} {l : List S_copy_run} {i n : Int} : (rnStep g l i n).length ≤ l.length + 1 := by
 unfold rnStep;split
 ·split <;> simp
 ·simp
theorem runsTo_ok {g : Int → Int} {t : List Int} {N : Nat} (ht : ∀ x ∈ t, x < N) : ∀ k, (∀ r ∈ runsTo g t k, RunOk N r) ∧ (runsTo g t k).length ≤ k := by
 intro k
 induction k with
 | zero => simp [runsTo]
 | succ k ih =>
  rw [runsTo];split
  ·rename_i n hn
   split
   ·rename_i hp
    have h0 : 0 ≤ n := (of_decide_eq_true hp).1;refine ⟨rnStep_ok ih.1 ⟨h0, ht _ (List.mem_of_getElem? hn)⟩, ?_⟩
    have := rnStep_len (g := g) (l := runsTo g t k) (i := k) (n := n);omega
   ·exact ⟨ih.1, by omega⟩
  ·exact ⟨ih.1, by omega⟩
theorem runsTo_succ {g : Int → Int} {t : List Int} {k : Nat} {n : Int} (h : t[k]? = some n) : runsTo g t (k + 1) = if isPlain t k n = true then rnStep g (runsTo g t k) k n else runsTo g t k := by rw [runsTo, h]
def follow (last : Int) (ps : List (S_copy_run × Int)) (a : Int) : Int := ps.foldl (fun a p => if p.1.first > last then max a p.2 else a) a
def chains : List S_copy_run → List Int
 | [] => []
 | r :: l => (follow r.last (l.zip (chains l)) 0 + 1) :: chains l
theorem chains_len : ∀ l, (chains l).length = l.length := by
 intro l
 induction l with
 | nil => rfl
 | cons r l ih => simp [chains, ih]
theorem follow_bounds {last : Int} {M : Int} : ∀ (ps : List (S_copy_run × Int)) (a : Int), (∀ p ∈ ps, p.2 ≤ M) → a ≤ M → a ≤ follow last ps a ∧ follow last ps a ≤ M := by
 intro ps
 induction ps with
 | nil => intro a _ h; exact ⟨Int.le_refl _, h⟩
 | cons p ps ih =>
  intro a h ha
  have hp := h p List.mem_cons_self
  have ht : ∀ p ∈ ps, p.2 ≤ M := fun q hq => h q (List.mem_cons_of_mem _ hq)
  show a ≤ follow last ps (if p.1.first > last then max a p.2 else a) ∧ _;split
  ·have := ih (max a p.2) ht (by omega);exact ⟨by omega, by rw [follow, List.foldl_cons]; rename_i hc; rw [if_pos hc]; exact this.2⟩
  ·have := ih a ht ha;exact ⟨this.1, by rw [follow, List.foldl_cons]; rename_i hc; rw [if_neg hc]; exact this.2⟩
theorem chains_bounds : ∀ (l : List S_copy_run), ∀ m ∈ chains l, 1 ≤ m ∧ m ≤ l.length := by
 intro l
 induction l with
 | nil => intro m h; cases h
 | cons r l ih =>
  intro m h;rw [chains] at h
  rcases List.mem_cons.1 h with rfl | h
  ·have := follow_bounds (last := r.last) (M := l.length) (l.zip (chains l)) 0 (fun p hp => (ih p.2 (List.of_mem_zip hp).2).2) (by omega);rw [List.length_cons];omega
  ·have := ih m h;rw [List.length_cons];omega
def top : List Int → Int
 | [] => 0
 | m :: ms => max (top ms) m
theorem top_bounds {M : Int} (hM : 0 ≤ M) : ∀ l : List Int, (∀ m ∈ l, m ≤ M) → 0 ≤ top l ∧ top l ≤ M := by
 intro l
 induction l with
 | nil => intro _; exact ⟨Int.le_refl _, hM⟩
 | cons a l ih =>
  intro h
  have := ih fun m hm => h m (List.mem_cons_of_mem _ hm)
  have := h a List.mem_cons_self;rw [top];omega
def movedFrom : List (S_copy_run × Int) → Int → Int → List Int
 | [], _, _ => []
 | p :: ps, b, last => if p.2 = b ∧ p.1.first > last then movedFrom ps (b - 1) p.1.last else p.1.item :: movedFrom ps b last
def movedOf (l : List S_copy_run) : List Int := movedFrom (l.zip (chains l)) (top (chains l)) (-1)
theorem movedFrom_len : ∀ (ps : List (S_copy_run × Int)) (b last : Int), (movedFrom ps b last).length ≤ ps.length := by
 intro ps
 induction ps with
 | nil => intro b last; exact Nat.le_refl _
 | cons p ps ih =>
  intro b last;rw [movedFrom];split
  ·have := ih (b - 1) p.1.last;rw [List.length_cons]; omega
  ·have := ih b last;rw [List.length_cons, List.length_cons]; omega
theorem movedOf_len (l : List S_copy_run) : (movedOf l).length ≤ l.length := by
 have := movedFrom_len (l.zip (chains l)) (top (chains l)) (-1);unfold movedOf;rw [List.length_zip, chains_len] at this;omega
def row (l : List S_copy_run) (i : Nat) : List Int := List.replicate i 0 ++ (chains (l.drop i) ++ List.replicate (120 - l.length) 0)
theorem row_len {l : List S_copy_run} {i : Nat} (h : l.length ≤ 120) (hi : i ≤ l.length) : (row l i).length = 120 := by
 unfold row;rw [List.length_append, List.length_append, List.length_replicate, List.length_replicate, chains_len, List.length_drop];omega
theorem row_get {l : List S_copy_run} {i k : Nat} (hk : i ≤ k) (hl : k < l.length) : (row l i)[k]? = (chains (l.drop i))[k - i]? := by
 unfold row;rw [List.getElem?_append_right (by rw [List.length_replicate]; exact hk), List.length_replicate, List.getElem?_append_left (by rw [chains_len, List.length_drop]; omega)]
theorem inner_ok {l : List S_copy_run} {i : Nat} {r : S_copy_run} (hl : l.length ≤ 120) (hr : l[i]? = some r) :
  iter (P_c_moved_L2 l i) (((i : Int) + 1), row l (i + 1)) = some ((row l (i + 1)).set i (follow r.last ((l.drop (i + 1)).zip (chains (l.drop (i + 1)))) 0)) := by
 have hi : i < l.length := (List.getElem?_eq_some_iff.1 hr).1;refine Ok.get ?_
 have hz : (row l (i + 1))[i]? = some 0 := by
  unfold row;rw [List.getElem?_append_left (by rw [List.length_replicate]; omega)];simp
 have hset0 : (row l (i + 1)).set i 0 = row l (i + 1) := by
  obtain ⟨h1, h2⟩ := List.getElem?_eq_some_iff.1 hz;rw [← h2, List.set_getElem_self]
 have hrl := row_len hl (show i + 1 ≤ l.length by omega);refine Ok.count (fun s => s.1 - ((i : Int) + 1)) (l.length - (i + 1)) (fun k s => s.2 = (row l (i + 1)).set i (follow r.last (((l.drop (i + 1)).zip (chains (l.drop (i + 1)))).take k) 0)) (by simp only; omega) (by simp only [List.take_zero]; exact hset0.symm) ?_ ?_
 ·rintro k ⟨kk, many⟩ hk hx hm;simp only at hx hm
  have hkk : kk = ((i + 1 + k : Nat) : Int) := by omega
  subst hkk;subst hm
  have hlen : ((row l (i + 1)).set i (follow r.last (((l.drop (i + 1)).zip (chains (l.drop (i + 1)))).take k) 0)).length = 120 := by rw [List.length_set, hrl]
  have hd : (l.drop (i + 1))[k]? = l[i + 1 + k]? := by rw [List.getElem?_drop]
  have hck : k < (chains (l.drop (i + 1))).length := by rw [chains_len, List.length_drop]; omega
  have hdk : k < (l.drop (i + 1)).length := by rw [List.length_drop]; omega
  have hzip : ((l.drop (i + 1)).zip (chains (l.drop (i + 1))))[k]? = some ((l.drop (i + 1))[k], (chains (l.drop (i + 1)))[k]) := by
   rw [List.getElem?_zip_eq_some];exact ⟨List.getElem?_eq_getElem hdk, List.getElem?_eq_getElem hck⟩
  have hf : follow r.last (((l.drop (i + 1)).zip (chains (l.drop (i + 1)))).take (k + 1)) 0 = (if (l.drop (i + 1))[k].first > r.last then max (follow r.last (((l.drop (i + 1)).zip (chains (l.drop (i + 1)))).take k) 0) (chains (l.drop (i + 1)))[k] else follow r.last (((l.drop (i + 1)).zip (chains (l.drop (i + 1)))).take k) 0) := by
   rw [take_snoc hzip, follow, List.foldl_append];rfl
  have hri : (row l (i + 1))[i + 1 + k]? = some (chains (l.drop (i + 1)))[k] := by
   rw [row_get (by omega) (by omega), show i + 1 + k - (i + 1) = k by omega, List.getElem?_eq_getElem hck]
  have hA : l[i + 1 + k]? = some (l.drop (i + 1))[k] := by rw [← hd, List.getElem?_eq_getElem hdk]
  generalize hF : follow r.last (((l.drop (i + 1)).zip (chains (l.drop (i + 1)))).take k) 0 = F at *;unfold P_c_moved_L2;refine .ifp (by omega) (Ok.andx (P := fun m => m = (row l (i + 1)).set i (follow r.last (((l.drop (i + 1)).zip (chains (l.drop (i + 1)))).take (k + 1)) 0)) ?_ ?_)
  ·refine .el (by omega) fun a ha => ?_
   have ha := get_of ha rfl;rw [hA] at ha;cases ha;refine .el (by omega) fun b hb => ?_
   have hb := get_of hb rfl;rw [hr] at hb;cases hb;refine .ite (fun hc => ?_) (fun hc => ?_)
   ·refine .chk (by rw [hlen]; rfl) (.el (by rw [hlen]; omega) fun x hx1 => ?_)
    have hx1 := get_of hx1 rfl;rw [List.getElem?_set_self (by rw [hrl]; omega)] at hx1;cases hx1;refine .chk (by rw [hlen]; rfl) (.el (by rw [hlen]; omega) fun y hy1 => ?_)
    have hy1 := get_of hy1 rfl;rw [List.getElem?_set_ne (by omega), hri] at hy1;cases hy1;refine .chk (by rw [hlen]; rfl) (.el (by rw [hlen]; omega) fun w hw1 => .some ?_)
    show _ = _;rw [hf, if_pos hc, Int.toNat_natCast, List.set_set]
   ·refine .some ?_
    show _ = _;rw [hf, if_neg hc]
  ·rintro m rfl;exact .chk (i64_small (by omega)) (.some ⟨by simp only; omega, rfl⟩)
 ·rintro ⟨kk, many⟩ hx hm;simp only at hx hm;unfold P_c_moved_L2;refine .ifn (by omega) (.some ?_)
  show many = _;rw [hm, List.take_of_length_le (by rw [List.length_zip, chains_len, List.length_drop]; omega)]
theorem row_step {l : List S_copy_run} {i : Nat} {r : S_copy_run} (hr : l[i]? = some r) : (row l (i + 1)).set i (follow r.last ((l.drop (i + 1)).zip (chains (l.drop (i + 1)))) 0 + 1) = row l i := by
 have e : List.replicate (i + 1) (0 : Int) = List.replicate i 0 ++ [0] := List.replicate_succ';unfold row;rw [e, List.append_assoc, List.set_append_right _ _ (by rw [List.length_replicate]; omega), List.length_replicate, Nat.sub_self, drop_cons hr, chains];rfl
theorem moved_ok {l : List S_copy_run} {N : Nat} (hl : l.length ≤ 120) (hr : ∀ r ∈ l, RunOk N r) : P_c_moved l = some (movedOf l) := by
 refine Ok.get ?_;unfold P_c_moved
 have hcb := chains_bounds;refine Ok.andx (P := fun s => s = (top (chains l), row l 0)) (.chk (i64_small (by omega)) ?_) ?_
 ·refine Ok.count (fun s => ((l.length : Int) - 1) - s.2.1) l.length (fun k s => s.1 = top (chains (l.drop (l.length - k))) ∧ s.2.2 = row l (l.length - k)) (by simp only; omega) ⟨by simp [chains, top], ?_⟩ ?_ ?_
  ·simp only [Nat.sub_zero, row, List.drop_length, chains, List.nil_append];rw [List.replicate_append_replicate, show l.length + (120 - l.length) = 120 by omega]
  ·rintro k ⟨best, i, many⟩ hk hx ⟨hb, hm⟩;simp only at hx hb hm;obtain ⟨j, hj⟩ : ∃ j : Nat, j = l.length - 1 - k := ⟨_, rfl⟩
   have hi : i = (j : Int) := by omega
   subst hi
   have hjl : j < l.length := by omega
   obtain ⟨r, hrj⟩ : ∃ r, l[j]? = some r := ⟨_, List.getElem?_eq_getElem hjl⟩
   have e1 : l.length - k = j + 1 := by omega
   have e2 : l.length - (k + 1) = j := by omega
   rw [e1] at hb hm;subst hb hm
   have hset : ∀ x, (((row l (j + 1)).set j x).length : Int) * 1 = 120 := fun x => by rw [List.length_set, row_len hl (by omega)]; rfl
   have hch : chains (l.drop j) = (follow r.last ((l.drop (j + 1)).zip (chains (l.drop (j + 1)))) 0 + 1) :: chains (l.drop (j + 1)) := by rw [drop_cons hrj, chains]
   have hbd := hcb (l.drop j) (follow r.last ((l.drop (j + 1)).zip (chains (l.drop (j + 1)))) 0 + 1) (by rw [hch]; exact List.mem_cons_self)
   have hld : (l.drop j).length ≤ 120 := by rw [List.length_drop]; omega
   generalize hF : follow r.last ((l.drop (j + 1)).zip (chains (l.drop (j + 1)))) 0 = F at *;unfold P_c_moved_L1;refine .ifp (by omega) (Ok.andx (P := fun s => s = (top (chains (l.drop j)), row l j)) ?_ ?_)
   ·refine Ok.andx' (a := (row l (j + 1)).set j F) ?_ ?_
    ·have := inner_ok hl hrj;rw [hF] at this;rw [chk_pos (i64_small (by omega))];exact this
    ·refine .chk (hset _) (.el (by rw [List.length_set, row_len hl (by omega)]; omega) fun a ha => ?_)
     have ha := get_of ha rfl;rw [List.getElem?_set_self (by rw [row_len hl (by omega)]; omega)] at ha;cases ha;refine .chk (i64_small (by omega)) (.chk (hset _) (.el (by rw [List.length_set, row_len hl (by omega)]; omega) fun b hb => ?_));rw [Int.toNat_natCast, List.set_set];refine .chk (hset _) (.el (by rw [List.length_set, row_len hl (by omega)]; omega) fun c hc => .some ?_)
     have hc := get_of hc rfl;rw [List.getElem?_set_self (by rw [row_len hl (by omega)]; omega)] at hc;cases hc
     show _ = _
     have := row_step hrj;rw [hF] at this;rw [hch, top, this]
   ·rintro s rfl;refine .chk (i64_small (by omega)) (.some ⟨by simp only; omega, ?_, ?_⟩)
    ·simp only [e2]
    ·simp only [e2]
  ·rintro ⟨best, i, many⟩ hx ⟨hb, hm⟩;simp only at hx hb hm;unfold P_c_moved_L1;refine .ifn (by omega) (.some ?_)
   show _ = _;rw [hb, hm, Nat.sub_self, List.drop_zero]
 ·rintro s rfl
  have hrow : ∀ k (hk : k < l.length), (row l 0)[k]? = some ((chains l)[k]'(by rw [chains_len]; exact hk)) := fun k hk => by
   rw [row_get (Nat.zero_le _) hk, List.drop_zero, Nat.sub_zero, List.getElem?_eq_getElem (by rw [chains_len]; exact hk)]
  have hl120 := row_len hl (Nat.zero_le _)
  have htop := top_bounds (M := 120) (by omega) (chains l) fun m hm => by have := hcb l m hm; omega
  refine Ok.andx (P := fun s : Int × Int × Int × List Int => s.2.2.2 = movedOf l) (Ok.count (fun s : Int × Int × List Int × Int × Int × Int => s.2.1) l.length (fun k s => movedOf l = s.2.2.1 ++ movedFrom ((l.zip (chains l)).drop k) s.1 s.2.2.2.2.2 ∧ s.2.2.1.length ≤ k ∧ -200 - (k : Int) ≤ s.1 ∧ s.1 ≤ 120 ∧ (s.2.2.2 = (-1, -1, -1) ∨ 0 ≤ s.2.2.2.2.1 ∧ 0 ≤ s.2.2.2.2.2)) rfl ⟨by simp only [List.nil_append, List.drop_zero]; rfl, Nat.le_refl _, by simp only; omega, by simp only; omega, .inl rfl⟩ ?_ ?_) ?_
  ·rintro k ⟨best, x, items, li, lf, ll⟩ hk hx ⟨h1, h2, h3, h4, h5⟩;simp only at hx h1 h2 h3 h4 h5;subst hx
   have hck : k < (chains l).length := by rw [chains_len]; exact hk
   have hzip : (l.zip (chains l))[k]? = some (l[k], (chains l)[k]) := by
    rw [List.getElem?_zip_eq_some];exact ⟨List.getElem?_eq_getElem hk, List.getElem?_eq_getElem hck⟩
   have hrk := hr l[k] (List.getElem_mem hk);rw [drop_cons hzip, movedFrom] at h1;simp only at h1;unfold P_c_moved_L3;refine .ifp (by omega) (Ok.andx (P := fun s : Int × List Int × Int × Int × Int => movedOf l = s.2.1 ++ movedFrom ((l.zip (chains l)).drop (k + 1)) s.1 s.2.2.2.2 ∧ s.2.1.length ≤ k + 1 ∧ -200 - ((k : Int) + 1) ≤ s.1 ∧ s.1 ≤ 120 ∧ (s.2.2 = (-1, -1, -1) ∨ 0 ≤ s.2.2.2.1 ∧ 0 ≤ s.2.2.2.2)) ?_ ?_)
   ·refine .el (by omega) fun a ha => ?_
    have ha := get_of ha rfl;rw [List.getElem?_eq_getElem hk] at ha;cases ha;refine Ok.andx (P := fun b : Bool => b = true ↔ ((chains l)[k] = best ∧ l[k].first > ll)) ?_ ?_
    ·refine .chk (by rw [hl120]; rfl) (.el (by rw [hl120]; omega) fun m hm => ?_)
     have hm := get_of hm rfl;rw [hrow k hk] at hm;cases hm;refine .ite (fun hc => ?_) (fun hc => ?_)
     ·refine .ite (fun hd => ?_) (fun hd => ?_)
      ·exact .some (by simp only [true_iff]; exact ⟨hc, by rw [hd.2.2]; have := hrk.1; omega⟩)
      ·exact .some (by rw [decide_eq_true_iff]; exact ⟨fun h => ⟨hc, h⟩, fun h => h.2⟩)
     ·exact .some (by simp only [Bool.false_eq_true, false_iff]; exact fun h => hc h.1)
    ·rintro b hb;refine .ite (fun hc => ?_) (fun hc => ?_)
     ·rw [if_pos (hb.1 hc)] at h1;exact .chk (i64_small (by omega)) (.some ⟨h1, by simp only; omega, by simp only; omega, by simp only; omega, .inr ⟨hrk.1, hrk.2.2.1⟩⟩)
     ·rw [if_neg (fun h => hc (hb.2 h))] at h1;refine .chk (by simp; omega) (.some ⟨?_, by simp; omega, by simp only; omega, by simp only; omega, h5⟩);simp only;rw [h1, List.append_assoc];rfl
   ·rintro ⟨b', it', li', lf', ll'⟩ ⟨q1, q2, q3, q4, q5⟩;exact .chk (i64_small (by omega)) (.some ⟨rfl, q1, q2, by simp only at q3 ⊢; omega, q4, q5⟩)
  ·rintro ⟨best, x, items, li, lf, ll⟩ hx ⟨h1, h2, h3, h4, h5⟩;simp only at hx h1;unfold P_c_moved_L3;refine .ifn (by omega) (.some ?_)
   show items = _;rw [h1, List.drop_eq_nil_of_le (by rw [List.length_zip, chains_len]; omega), movedFrom, List.append_nil]
  ·rintro ⟨a, b, c, d⟩ h;exact .some h
end Go.Am
end
section
namespace Go.Am
set_option linter.unusedVariables false
def mateF (mt : List Int) (x : Int) : Int := match mt[x.toNat]? with | some m => m | none => -1
def isPiece (mt gone : List Int) (x : Int) : Bool := decide (mateF mt x < 0 ∨ mateF mt x > x ∨ mateF mt x ∉ gone)
def piecesOf (mt gone : List Int) : Int := (gone.countP (isPiece mt gone) : Nat)
theorem piecesOf_le (mt gone : List Int) : 0 ≤ piecesOf mt gone ∧ piecesOf mt gone ≤ gone.length := by
 unfold piecesOf
 have := List.countP_le_length (p := isPiece mt gone) (l := gone);omega
theorem mem_lostOf {n : Nat} {t : List Int} {x : Int} : x ∈ lostOf n t ↔ 0 ≤ x ∧ x < n ∧ x ∉ t := by
 unfold lostOf;simp only [List.mem_filter, List.mem_map, List.mem_range, decide_eq_true_eq]
 constructor
 ·rintro ⟨⟨i, hi, rfl⟩, h⟩; exact ⟨by omega, by omega, h⟩
 ·rintro ⟨h0, h1, h2⟩; exact ⟨⟨x.toNat, by omega, by omega⟩, h2⟩
theorem lostOf_sorted (n : Nat) (t : List Int) : (lostOf n t).Pairwise (· < ·) := by
 induction n with
 | zero => exact .nil
 | succ n ih =>
  rw [lostOf_succ];split
  ·rw [List.pairwise_append];refine ⟨ih, List.pairwise_singleton _ _, fun a ha b hb => ?_⟩;rw [List.mem_singleton] at hb;subst hb;exact (mem_lostOf.1 ha).2.1
  ·exact ih
theorem sorted_take {l : List Int} (hs : l.Pairwise (· < ·)) {k : Nat} {a x : Int} (ha : l[k]? = some a) : x ∈ l.take (k + 1) ↔ x ∈ l ∧ x ≤ a := by
 obtain ⟨hk, rfl⟩ := List.getElem?_eq_some_iff.1 ha;rw [List.pairwise_iff_getElem] at hs
 constructor
 ·intro h;refine ⟨List.mem_of_mem_take h, ?_⟩;obtain ⟨j, hj, rfl⟩ := List.mem_iff_getElem.1 h;rw [List.getElem_take];rw [List.length_take] at hj
  by_cases e : j = k
  ·subst e; exact Int.le_refl _
  ·exact Int.le_of_lt (hs j k (by omega) hk (by omega))
 ·rintro ⟨h, hle⟩;obtain ⟨j, hj, rfl⟩ := List.mem_iff_getElem.1 h
  have hjk : j ≤ k := by
   by_cases e : j ≤ k
   ·exact e
   ·have := hs k j hk hj (by omega); omega
  exact List.mem_iff_getElem.2 ⟨j, by rw [List.length_take]; omega, by rw [List.getElem_take]⟩
theorem pieces_ok {mt gone : List Int} (hs : gone.Pairwise (· < ·)) (hr : ∀ x ∈ gone, 0 ≤ x ∧ x < mt.length) (hl : gone.length ≤ 1000000) :
  ∃ m, iter (P_c_faults_L1 mt gone) (0, (fun _ => 0), 0) = some (m, piecesOf mt gone) := by
 suffices h : Ok (iter (P_c_faults_L1 mt gone) (0, (fun _ => 0), 0)) (fun s => s.2 = piecesOf mt gone) by
  obtain ⟨⟨m, p⟩, h1, h2⟩ := h;exact ⟨m, by rw [h1, ← h2]⟩
 refine Ok.count (fun s => s.1) gone.length (fun k (s : Int × (Int → Int) × Int) => s.2.1 = cntOf (gone.take k) ∧ s.2.2 = (((gone.take k).countP (isPiece mt gone) : Nat) : Int)) rfl ⟨rfl, rfl⟩ ?_ ?_
 ·rintro k ⟨x, m, fp⟩ hk hx ⟨hm, hp⟩;simp only at hx hm hp;subst hx hm hp;unfold P_c_faults_L1
  have hcl := List.countP_le_length (p := isPiece mt gone) (l := gone.take k)
  have htl : (gone.take k).length ≤ 1000000 := by rw [List.length_take]; omega
  refine .ifp (by omega) (Ok.andx (P := fun s : (Int → Int) × Int => s.1 = cntOf (gone.take (k + 1)) ∧ s.2 = (((gone.take (k + 1)).countP (isPiece mt gone) : Nat) : Int)) ?_ ?_)
  ·refine .el (by omega) fun a ha => ?_
   have ha := get_of ha rfl
   have har := hr a (List.mem_of_getElem? ha);refine .el har fun b hb => ?_
   have hmf : mateF mt a = b := by unfold mateF; rw [hb]
   have hc := cntOf_le (gone.take k) a
   have hsn : putI (cntOf (gone.take k)) a (cntOf (gone.take k) a + 1) = cntOf (gone.take (k + 1)) := by rw [take_snoc ha, cntOf_snoc]
   have hcp : (gone.take (k + 1)).countP (isPiece mt gone) = (gone.take k).countP (isPiece mt gone) + (if isPiece mt gone a = true then 1 else 0) := by
    rw [take_snoc ha, List.countP_append, List.countP_singleton]
   refine .chk (i64_small (by omega)) (Ok.andx (P := fun c : Bool => c = true ↔ isPiece mt gone a = true) ?_ ?_)
   ·rw [hsn];unfold isPiece;rw [hmf, decide_eq_true_iff];refine .ite (fun h => .some ?_) (fun h => .some ?_)
    ·simp only [true_iff]; exact .inl h
    ·rw [decide_eq_true_iff, cntOf_zero, sorted_take hs ha]
     constructor
     ·intro h2
      by_cases hb2 : b ∈ gone
      ·exact .inr (.inl (by have : ¬ b ≤ a := fun h3 => h2 ⟨hb2, h3⟩; omega))
      ·exact .inr (.inr hb2)
     ·rintro (h2 | h2 | h2) ⟨h3, h4⟩
      ·exact h h2
      ·omega
      ·exact h2 h3
   ·rintro c hcc;rw [hsn];refine .ite (fun h => ?_) (fun h => ?_)
    ·refine .chk (i64_small (by omega)) (.some ⟨rfl, ?_⟩);simp only;rw [hcp, if_pos (hcc.1 h)];rfl
    ·refine .some ⟨rfl, ?_⟩;simp only;rw [hcp, if_neg (fun e => h (hcc.2 e))];rfl
  ·rintro ⟨m', p'⟩ ⟨h1, h2⟩;exact .chk (i64_small (by omega)) (.some ⟨rfl, h1, h2⟩)
 ·rintro ⟨x, m, fp⟩ hx ⟨hm, hp⟩;simp only at hx hm hp;unfold P_c_faults_L1;refine .ifn (by omega) (.some ?_)
  show fp = _;rw [hp, List.take_length]; rfl
def TruthIn (n : Nat) (t : List Int) : Prop := ∀ x ∈ t, x < n
theorem runs_loop {lv : List Leaf} {t : List Int} (ht : t.length ≤ 120) (hin : TruthIn lv.length t) :
  ∃ m, iter (P_c_faults_L2 lv t) (0, [], [], [], (fun _ => 0)) = some (m, runsOf (gathOf lv) t, strangeOf t, twiceOf t) := by
 suffices h : Ok (iter (P_c_faults_L2 lv t) (0, [], [], [], (fun _ => 0))) (fun s => s.2 = (runsOf (gathOf lv) t, strangeOf t, twiceOf t)) by
  obtain ⟨⟨m, p⟩, h1, h2⟩ := h;exact ⟨m, by rw [h1, ← h2]⟩
 refine Ok.count (fun s => s.1) t.length (fun k s => s.2.1 = runsTo (gathOf lv) t k ∧ s.2.2.1 = idxTo isStrange t k ∧ s.2.2.2.1 = idxTo (isTwice t) t k ∧ ∀ a, 0 ≤ a → s.2.2.2.2 a = cntOf (t.take k) a) rfl ⟨rfl, rfl, rfl, fun a _ => by simp [cntOf]⟩ ?_ ?_
 ·rintro k ⟨x, l, st, tw, m⟩ hk hx ⟨hl, hst, htw, hm⟩;simp only at hx hl hst htw hm;subst hx hl hst htw
  have hro := runsTo_ok (g := gathOf lv) hin k
  have hs1 := idxTo_len isStrange t k
  have hs2 := idxTo_len (isTwice t) t k;unfold P_c_faults_L2;refine .ifp (by omega) (Ok.andx (P := fun s : List S_copy_run × List Int × List Int × (Int → Int) => s.1 = runsTo (gathOf lv) t (k + 1) ∧ s.2.1 = idxTo isStrange t (k + 1) ∧ s.2.2.1 = idxTo (isTwice t) t (k + 1) ∧ ∀ a, 0 ≤ a → s.2.2.2 a = cntOf (t.take (k + 1)) a) ?_ ?_)
  ·refine .el (by omega) fun n hn => ?_
   have hn := get_of hn rfl
   have hnl := hin n (List.mem_of_getElem? hn);rw [runsTo_succ hn, idxTo_succ hn, idxTo_succ hn];refine .ite (fun h0 => ?_) (fun h0 => ?_)
   ·have e1 : isPlain t k n = false := decide_eq_false (by omega)
    have e2 : isStrange k n = true := decide_eq_true h0
    have e3 : isTwice t k n = false := decide_eq_false (by omega);rw [e1, e2, e3];refine .chk (by simp; omega) (.some ⟨rfl, rfl, rfl, fun a ha => ?_⟩);simp only;rw [hm a ha, take_snoc hn, cntOf_snoc, putI_ne (by omega)]
   ·have hc := cntOf_le (t.take k) n
    have htl : (t.take k).length ≤ 120 := by rw [List.length_take]; omega
    have hmn := hm n (by omega)
    have e2 : isStrange k n = false := decide_eq_false h0;rw [e2]
    have hm' : ∀ a, 0 ≤ a → putI m n (m n + 1) a = cntOf (t.take (k + 1)) a := fun a ha => by
     rw [take_snoc hn, cntOf_snoc]
     by_cases e : a = n
     ·subst e; rw [putI_same, putI_same, hmn]
     ·rw [putI_ne e, putI_ne e, hm a ha]
    refine .chk (i64_small (by omega)) (.ite (fun h1 => ?_) (fun h1 => ?_))
    ·rw [putI_same, hmn] at h1
     have hin' := (cntOf_pos (t.take k) n).1 (by omega)
     have e1 : isPlain t k n = false := decide_eq_false (fun h => h.2 hin')
     have e3 : isTwice t k n = true := decide_eq_true ⟨by omega, hin'⟩;rw [e1, e3];exact .chk (by simp; omega) (.some ⟨rfl, rfl, rfl, hm'⟩)
    ·rw [putI_same, hmn] at h1
     have hin' : n ∉ t.take k := fun h => h1 (by have := (cntOf_pos (t.take k) n).2 h; omega)
     have e1 : isPlain t k n = true := decide_eq_true ⟨by omega, hin'⟩
     have e3 : isTwice t k n = false := decide_eq_false (fun h => hin' h.2);rw [e1, e3];generalize hL : runsTo (gathOf lv) t k = L at *;refine Ok.seqx ?_;refine .chk (i64_small (by omega)) (Ok.andx (P := fun b : Bool => (b = true ∧ ∃ r, L[L.length - 1]? = some r ∧ r.last < n ∧ gathOf lv r.last = gathOf lv n) ∨ (b = false ∧ rnStep (gathOf lv) L k n = L ++ [⟨k, n, n⟩])) ?_ ?_)
     ·refine .ite (fun h2 => ?_) (fun h2 => ?_)
      ·refine .el (by omega) fun r hr => ?_
       have hr : L[L.length - 1]? = some r := get_of hr (by omega)
       have hrk := hro.1 r (List.mem_of_getElem? hr);refine .ite (fun h3 => ?_) (fun h3 => ?_)
       ·refine .el (by omega) fun r' hr' => ?_
        have hr' : L[L.length - 1]? = some r' := get_of hr' (by omega);rw [hr] at hr';cases hr';refine .el ⟨hrk.2.2.1, hrk.2.2.2⟩ fun a ha => .el ⟨by omega, hnl⟩ fun b hb => .some ?_
        have ga : gathOf lv r.last = a.g := by unfold gathOf; rw [ha]
        have gb : gathOf lv n = b.g := by unfold gathOf; rw [hb]
        by_cases e : a.g = b.g
        ·exact .inl ⟨decide_eq_true e, r, hr, h3, by rw [ga, gb, e]⟩
        ·refine .inr ⟨decide_eq_false e, ?_⟩;unfold rnStep;rw [hr];simp only;rw [if_neg (fun h => e (by rw [← ga, ← gb]; exact h.2))]
       ·refine .some (.inr ⟨rfl, ?_⟩);unfold rnStep;rw [hr];simp only;rw [if_neg (fun h => h3 h.1)]
      ·refine .some (.inr ⟨rfl, ?_⟩)
       have : L = [] := List.eq_nil_of_length_eq_zero (by omega);subst this;rfl
     ·rintro b (⟨rfl, r, hr, h3, h4⟩ | ⟨rfl, h3⟩)
      ·have hlt := (List.getElem?_eq_some_iff.1 hr).1;refine .ifp rfl (.el (by omega) fun r' hr' => ?_)
       have hr' : L[L.length - 1]? = some r' := get_of hr' (by omega);rw [hr] at hr';cases hr';refine .some ⟨?_, rfl, rfl, hm'⟩;simp only;unfold rnStep;rw [hr];simp only;rw [if_pos (c := r.last < n ∧ gathOf lv r.last = gathOf lv n) ⟨h3, h4⟩, show ((L.length : Int) - 1).toNat = L.length - 1 by omega];simp only [if_true]
      ·refine .ifn (by simp) (.some ?_)
       show Ok _ _;refine .chk (by simp; omega) (.some ⟨?_, rfl, rfl, hm'⟩);simp only;rw [if_pos trivial, h3]
  ·rintro ⟨l', st', tw', m'⟩ ⟨q1, q2, q3, q4⟩;exact .chk (i64_small (by omega)) (.some ⟨rfl, q1, q2, q3, q4⟩)
 ·rintro ⟨x, l, st, tw, m⟩ hx ⟨hl, hst, htw, hm⟩;simp only at hx hl hst htw;unfold P_c_faults_L2;refine .ifn (by omega) (.some ?_)
  show (l, st, tw) = _;rw [hl, hst, htw];rfl
def allOf (n : Nat) (mt : List Int) (g : Int → Int) (t : List Int) : Int := piecesOf mt (lostOf n t) + (strangeOf t).length + (twiceOf t).length + (movedOf (runsOf g t)).length
theorem faults_ok {s : Int} {g : List Gat} {its : List Item} {lv : List Leaf} {mt t : List Int} (hlv : lv.length ≤ 120) (hmt : mt.length = lv.length) (ht : t.length ≤ 120) (hin : TruthIn lv.length t) :
  P_c_faults s g its lv mt t = some ([], lostOf lv.length t, piecesOf mt (lostOf lv.length t), strangeOf t, twiceOf t, movedOf (runsOf (gathOf lv) t), allOf lv.length mt (gathOf lv) t) := by
 refine Ok.get ?_;unfold P_c_faults
 have hl := lostOf_len lv.length t
 have hp := piecesOf_le mt (lostOf lv.length t)
 have h1 : (strangeOf t).length ≤ 120 := Nat.le_trans (idxTo_len _ _ _) ht
 have h2 : (twiceOf t).length ≤ 120 := Nat.le_trans (idxTo_len _ _ _) ht
 have hr := runsTo_ok (g := gathOf lv) hin t.length
 have hm := movedOf_len (runsOf (gathOf lv) t)
 have hrl : (runsOf (gathOf lv) t).length ≤ t.length := hr.2;refine .andx' (lost_ok (by omega) (by omega)) ?_;obtain ⟨m1, e1⟩ := pieces_ok (mt := mt) (lostOf_sorted lv.length t) (fun x hx => by have := mem_lostOf.1 hx; rw [hmt]; omega) (by omega);refine .andx' e1 ?_;obtain ⟨m2, e2⟩ := runs_loop ht hin;refine .andx' e2 ?_;refine .andx' (moved_ok (by omega) hr.1) ?_;refine .chk (i64_small (by omega)) (.chk (i64_small (by omega)) (.chk (i64_small (by omega)) (.some rfl)))
end Go.Am
end
section
namespace Go.Am
def BadOrder (l : List Int) : Prop := ∃ (i : Nat) (a b : Int), l[i]? = some a ∧ l[i + 1]? = some b ∧ b ≤ a
open Classical in
noncomputable def itemErr (l : List Int) (n : Int) : Int := if 4 < l.length then 3 else if ∃ x ∈ l, x < 0 ∨ n - 1 < x then 4 else if BadOrder l then 2 else 0
noncomputable def itemsErr (n : Int) : Nat → List Item → Option (Nat × Int)
 | _, [] => none
 | i, x :: l => if itemErr x.could.l n = 0 then itemsErr n (i + 1) l else some (i, itemErr x.could.l n)
def doubtsErr : Nat → Nat → List Item → Option Nat
 | _, _, [] => none
 | d, i, x :: l => if 3 < (if 1 < x.could.l.length then d + 1 else d) then some i else doubtsErr (if 1 < x.could.l.length then d + 1 else d) (i + 1) l
noncomputable def caseErr (s : Int) (g : List Gat) (its : List Item) : Int × Int × Int :=
 if (bookErr (bk s g)).2.2 = 0 then
  if 120 < (leavesOf (bk s g)).length then (1, 0, 3)
  else if 120 < its.length then (2, 0, 3)
  else match itemsErr (leavesOf (bk s g)).length 0 its with
   | some (i, e) => (2, (i : Int), e)
   | none => match doubtsErr 0 0 its with
    | some i => (3, (i : Int), 3)
    | none => (0, 0, 0)
 else (1, 0, (bookErr (bk s g)).2.2)
theorem in_ok {n lo hi : Int} : P_r4_in n lo hi = some (decide (lo ≤ n ∧ n ≤ hi)) := by
 unfold P_r4_in
 by_cases h : n ≥ lo
 ·rw [if_pos h]; simp [andx, show lo ≤ n from h]
 ·rw [if_neg h]; simp [andx, show ¬ lo ≤ n from h]
theorem item_ok {l : List Int} {n : Int} (hn : 0 ≤ n ∧ n ≤ 1000000) : P_r4_item l n = some (itemErr l n) := by
 refine Ok.get ?_;unfold P_r4_item itemErr;refine .ite (fun h => ?_) (fun h => ?_)
 ·rw [if_pos (by omega)]; exact .some rfl
 ·rw [if_neg (by omega)];refine Ok.seqx (Ok.count id l.length (fun k s => ∀ x ∈ l.take k, ¬ (x < 0 ∨ n - 1 < x)) rfl (by simp) ?_ ?_)
  ·rintro k x hk hx hi;simp only [id] at hx;unfold P_r4_item_L1;refine .ifp (by omega) (.el (by omega) fun a ha => .chk (i64_small (by omega)) (.andx' in_ok ?_))
   have ha := get_of ha hx;refine .ite (fun hc => ?_) (fun hc => ?_)
   ·refine .chk (i64_small (by omega)) (.some ⟨by simp only [id]; omega, ?_⟩)
    show ∀ y ∈ l.take (k + 1), _;rw [take_snoc ha];intro y hy
    rcases List.mem_append.1 hy with hy | hy
    ·exact hi y hy
    ·simp at hy; subst hy; simp at hc; omega
   ·refine .some ?_
    show 4 = _;rw [if_pos ⟨a, List.mem_of_getElem? ha, by simp at hc; omega⟩]
  ·rintro x hx hi;simp only [id] at hx;unfold P_r4_item_L1;rw [List.take_length] at hi;refine .ifn (by omega) (.some ?_)
   show Ok _ _;rw [if_neg (fun ⟨y, h1, h2⟩ => hi y h1 h2)];refine Ok.seqx (Ok.iter (fun i => 1 ≤ i ∧ ∀ (k : Nat) (a b : Int), (k : Int) + 1 < i → l[k]? = some a → l[k + 1]? = some b → a < b) (fun i => l.length - i.toNat) ⟨by omega, fun k a b h => by omega⟩ ?_);rintro i ⟨h1, h2⟩;unfold P_r4_item_L2;refine .ite (fun hc => ?_) (fun hc => ?_)
   ·refine .el (by omega) fun b hb => .chk (i64_small (by omega)) (.el (by omega) fun a ha => ?_)
    have e : i.toNat = (i - 1).toNat + 1 := by omega
    rw [e] at hb;refine .ite (fun hd => .some ?_) (fun hd => .chk (i64_small (by omega)) (.some ⟨⟨by omega, ?_⟩, by simp only; omega⟩))
    ·show 2 = _;rw [if_pos ⟨_, a, b, ha, hb, hd⟩]
    ·intro k a' b' hk ha' hb'
     by_cases hk' : (k : Int) + 1 < i
     ·exact h2 k a' b' hk' ha' hb'
     ·have : k = (i - 1).toNat := by omega
      subst this;rw [ha] at ha'; rw [hb] at hb';cases ha'; cases hb';omega
   ·refine .some ?_
    show Ok _ _;refine .some ?_;rw [if_neg];rintro ⟨k, a, b, ha, hb, hd⟩
    have := (List.getElem?_eq_some_iff.1 hb).1
    have := h2 k a b (by omega) ha hb;omega
theorem itemsErr_drop {n : Int} {l : List Item} {k : Nat} {x : Item} (h : l[k]? = some x) : itemsErr n k (l.drop k) = if itemErr x.could.l n = 0 then itemsErr n (k + 1) (l.drop (k + 1)) else some (k, itemErr x.could.l n) := by
 rw [drop_cons h]; rfl
theorem doubtsErr_drop {d : Nat} {l : List Item} {k : Nat} {x : Item} (h : l[k]? = some x) : doubtsErr d k (l.drop k) = if 3 < (if 1 < x.could.l.length then d + 1 else d) then some k else doubtsErr (if 1 < x.could.l.length then d + 1 else d) (k + 1) (l.drop (k + 1)) := by
 rw [drop_cons h]; rfl
theorem r4_Check_ok {s : Int} {g : List Gat} {its : List Item} : P_r4_Check s g its = some (caseErr s g its) := by
 refine Ok.get ?_;unfold P_r4_Check caseErr;refine .andx' (x := P_r1_Check s g) rfl ?_;dsimp only
 by_cases h0 : (bookErr (bk s g)).2.2 = 0
 ·have hf := book_fits h0
  have hall : P_r1_All s g = some (leavesOf (bk s g)) := by unfold P_r1_All; rw [chk_pos hf]
  have hlen := leaves_len hf;rw [if_pos h0, if_pos h0, hall];simp only [andx];generalize hL : leavesOf (bk s g) = lv at hlen
  by_cases h1 : 120 < lv.length
  ·rw [if_pos (show decide ((lv.length : Int) > 120) = true by simp; omega), if_pos h1];simp only;refine .ifp (by omega) (.some rfl)
  ·rw [if_neg (show ¬ decide ((lv.length : Int) > 120) = true by simp; omega), if_neg h1];simp only [h0];refine .ifn (by simp) ?_
   by_cases h2 : 120 < its.length
   ·rw [if_pos h2]; refine .ifp (by omega) (.some rfl)
   ·rw [if_neg h2];refine .ifn (by omega) (Ok.seqx (Ok.count id its.length (fun k _ => itemsErr lv.length 0 its = itemsErr lv.length k (its.drop k)) rfl rfl ?_ ?_))
    ·rintro k i hk hi hI;simp only [id] at hi;subst hi;unfold P_r4_Check_L1;refine .ifp (by omega) (.el (by omega) fun x hx => .andx' (item_ok (by omega)) ?_)
     have hx := get_of hx rfl;rw [itemsErr_drop hx] at hI;refine .ite (fun hc => ?_) (fun hc => ?_)
     ·rw [if_neg hc] at hI;refine .some ?_
      show _ = _;rw [hI]
     ·rw [if_pos (by omega)] at hI;exact .chk (i64_small (by omega)) (.some ⟨rfl, hI⟩)
    ·rintro i hi hI;simp only [id] at hi;subst hi;unfold P_r4_Check_L1;rw [List.drop_length] at hI;refine .ifn (by omega) (.some ?_)
     show Ok _ _;rw [hI];simp only [itemsErr];refine Ok.seqx (Ok.count (σ := Int × Int) Prod.snd its.length (fun k s => ∃ d : Nat, s.1 = d ∧ d ≤ 3 ∧ doubtsErr 0 0 its = doubtsErr d k (its.drop k)) rfl ⟨0, rfl, by omega, rfl⟩ ?_ ?_)
     ·rintro k ⟨dd, i⟩ hk hi ⟨d, hd, hd3, hI⟩;simp only at hi hd;subst hi hd;unfold P_r4_Check_L2;refine .ifp (by omega) (Ok.seqx ?_);refine Ok.andx (P := fun j => ∃ x, its[k]? = some x ∧ j = ((if 1 < x.could.l.length then d + 1 else d : Nat) : Int)) (.el (by omega) fun x hx => ?_) ?_
      ·have hx := get_of hx rfl;refine .ite (fun hc => .chk (i64_small (by omega)) (.some ⟨x, hx, ?_⟩)) (fun hc => .some ⟨x, hx, ?_⟩)
       ·rw [if_pos (by omega)]; rfl
       ·rw [if_neg (by omega)]
      ·rintro j ⟨x, hx, rfl⟩;rw [doubtsErr_drop hx] at hI;generalize (if 1 < x.could.l.length then d + 1 else d) = e at hI;refine .ite (fun hc => ?_) (fun hc => ?_)
       ·rw [if_pos (by omega)] at hI;refine .some ?_
        show _ = _;rw [hI]
       ·rw [if_neg (by omega)] at hI;refine .some ?_
        show Ok _ _;exact .chk (i64_small (by omega)) (.some ⟨rfl, e, rfl, by omega, hI⟩)
     ·rintro ⟨dd, i⟩ hi ⟨d, hd, hd3, hI⟩;simp only at hi hd;subst hi hd;unfold P_r4_Check_L2;rw [List.drop_length] at hI;refine .ifn (by omega) (.some ?_)
      show Ok _ _;rw [hI];exact .some rfl
 ·rw [if_neg h0, if_neg h0];simp only [andx];rw [if_neg (by simp)];simp only;exact .ifp h0 (.some rfl)
end Go.Am
end
section
namespace Go.Am
noncomputable def lvs (s : Int) (g : List Gat) : List Leaf := leavesOf (bk s g)
noncomputable def matesTo (s : Int) (g : List Gat) (n : Nat) : List Int := (List.range n).map fun n => pairNo (bk s g) n
noncomputable def matesOf (s : Int) (g : List Gat) : List Int := matesTo s g (lvs s g).length
theorem matesTo_len (s : Int) (g : List Gat) (n : Nat) : (matesTo s g n).length = n := by simp [matesTo]
theorem matesTo_succ (s : Int) (g : List Gat) (n : Nat) : matesTo s g (n + 1) = matesTo s g n ++ [pairNo (bk s g) n] := by
 unfold matesTo; rw [List.range_succ, List.map_append]; rfl
theorem itemsErr_pos : ∀ (l : List Item) (i : Nat) (n : Int), ∀ x, itemsErr n i l = some x → x.2 ≠ 0 := by
 intro l
 induction l with
 | nil => intro i n x h; cases h
 | cons a l ih =>
  intro i n x h;unfold itemsErr at h;split at h
  ·exact ih _ _ _ h
  ·cases h; assumption
noncomputable def openRes (s : Int) (g : List Gat) (its : List Item) : Sum (Int × Int × Int) (Int × (GS encL) × (List Int) × Int × Int × Int) :=
 if (caseErr s g its).2.2 = 0 then .inr (s, GSo true encL (lvs s g), matesOf s g, 0, 0, 0) else .inl (caseErr s g its)
theorem outside_ok {lo hi : Int} {x : List Int} (h : x.length ≤ 1000000) : P_c_outside lo hi x = some (decide (∃ n ∈ x, n < lo ∨ hi < n)) := by
 unfold P_c_outside;rw [chk_pos (by omega)]
theorem order_ok {x44 : Int} {it : Item} (hl : it.could.l.length ≤ 4) {Q : Ex Unit (Stp Int (Ex Unit (Sum (Int × Int × Int) (Int × (GS encL) × (List Int) × Int × Int × Int)))) → Prop}
  (h1 : BadOrder it.could.l → Q (.rt (.dn (.rt (.inl (2, x44, 2)))))) (h2 : ¬ BadOrder it.could.l → Q (.nx ())) : Ok (iter (P_c_open_L2 x44 it) 0) Q := by
 refine Ok.iter (fun i => 0 ≤ i ∧ ∀ (k : Nat) (a b : Int), (k : Int) + 1 < i → it.could.l[k]? = some a → it.could.l[k + 1]? = some b → a < b) (fun i => it.could.l.length - i.toNat) ⟨by omega, fun k a b h => by omega⟩ ?_;rintro i ⟨h0, hI⟩;unfold P_c_open_L2;refine .ite (fun hc => ?_) (fun hc => ?_)
 ·refine Ok.seqx (.el (by omega) fun b hb => ?_)
  by_cases hi : i > 0
  ·rw [if_pos hi];refine Ok.andx (P := fun c => ∃ a, it.could.l[(i - 1).toNat]? = some a ∧ c = decide (b ≤ a)) (.chk (i64_small (by omega)) (.el (by omega) fun a ha => .some ⟨a, ha, rfl⟩)) ?_;rintro c ⟨a, ha, rfl⟩
   have e : i.toNat = (i - 1).toNat + 1 := by omega
   rw [e] at hb;refine .ite (fun hd => .some ?_) (fun hd => .some ?_)
   ·exact h1 ⟨_, a, b, ha, hb, by simpa using hd⟩
   ·refine .chk (i64_small (by omega)) (.some ⟨⟨by omega, ?_⟩, by simp only; omega⟩);intro k a' b' hk ha' hb'
    by_cases hk' : (k : Int) + 1 < i
    ·exact hI k a' b' hk' ha' hb'
    ·have : k = (i - 1).toNat := by omega
     subst this;rw [ha] at ha'; rw [hb] at hb';cases ha'; cases hb'
     have : ¬ b ≤ a := by simpa using hd
     omega
  ·rw [if_neg hi];simp only [andx];rw [if_neg (by simp)];refine .some ?_
   show Ok _ _;exact .chk (i64_small (by omega)) (.some ⟨⟨by omega, fun k a b hk => by omega⟩, by simp only; omega⟩)
 ·refine .some ?_;refine h2 ?_;rintro ⟨k, a, b, ha, hb, hd⟩
  have := (List.getElem?_eq_some_iff.1 hb).1
  have := hI k a b (by omega) ha hb;omega
theorem mate_ok {s : Int} {g : List Gat} {n : Nat} (h0 : (bookErr (bk s g)).2.2 = 0) (hn : n < (lvs s g).length) : (if ¬ (mateOf (bk s g) n).2 = 0 then (-1 : Int) else (mateOf (bk s g) n).1) = pairNo (bk s g) n := by
 rcases mate_cases h0 hn with h | ⟨h, h'⟩
 ·rw [h]; simp
 ·rw [h, h']; simp
theorem mates_ok {s : Int} {g : List Gat} (h0 : (bookErr (bk s g)).2.2 = 0) (hl : (lvs s g).length ≤ 120) : iter (P_c_open_L4 s g (lvs s g)) (0, []) = some (matesOf s g) := by
 refine Ok.get (Ok.count (σ := Int × List Int) Prod.fst (lvs s g).length (fun k x => x.2 = matesTo s g k) rfl rfl ?_ ?_)
 ·rintro k ⟨i, l⟩ hk hi hl';simp only at hi hl';subst hi hl';unfold P_c_open_L4;refine .ifp (by omega) (Ok.andx (P := fun l => l = matesTo s g (k + 1)) ?_ ?_)
  ·refine .andx' (x := P_q_Mate s g k) (a := mateOf (bk s g) k) rfl ?_
   have hme := mate_ok h0 hk;generalize mateOf (bk s g) (k : Int) = me at hme;obtain ⟨m, e⟩ := me;dsimp only at hme ⊢;refine Ok.andx (P := fun m => m = pairNo (bk s g) k) ?_ ?_
   ·refine .ite (fun hc => .some ?_) (fun hc => .some ?_)
    ·rw [if_pos hc] at hme; exact hme
    ·rw [if_neg hc] at hme; exact hme
   ·rintro m rfl
    have := matesTo_len s g k;exact .chk (by simp; omega) (.some (matesTo_succ s g k).symm)
  ·rintro l rfl;exact .chk (i64_small (by omega)) (.some ⟨rfl, rfl⟩)
 ·rintro ⟨i, l⟩ hi hl';simp only at hi hl';subst hi hl';unfold P_c_open_L4;exact .ifn (by omega) (.some rfl)
theorem open_ok {s : Int} {g : List Gat} {its : List Item} : P_c_open s g its = some (openRes s g its) := by
 refine Ok.get ?_;unfold P_c_open openRes caseErr;refine .andx' (x := P_q_Check s g) rfl ?_;dsimp only
 by_cases h0 : (bookErr (bk s g)).2.2 = 0
 ·rw [if_pos h0];refine .ifn (fun h => h h0) (.andx' (x := P_q_Leaves s g) (a := (leavesOf (bk s g), 0)) (by unfold P_q_Leaves; rw [if_pos h0, h0]) ?_);dsimp only
  have hlen := leaves_len (book_fits h0)
  have hmt := mates_ok (s := s) (g := g) h0;unfold lvs at hmt ⊢;generalize leavesOf (bk s g) = lv at hlen hmt
  by_cases h1 : 120 < lv.length
  ·rw [if_pos h1];exact .ifp (by omega) (.some (by simp))
  ·rw [if_neg h1];refine .ifn (by omega) ?_
   by_cases h2 : 120 < its.length
   ·rw [if_pos h2];exact .ifp (by omega) (.some (by simp))
   ·rw [if_neg h2];refine .ifn (by omega) (Ok.seqx (Ok.count id its.length (fun k _ => itemsErr lv.length 0 its = itemsErr lv.length k (its.drop k)) rfl rfl ?_ ?_))
    ·rintro k i hk hi hI;simp only [id] at hi;subst hi;unfold P_c_open_L1;refine .ifp (by omega) (Ok.seqx (.el (by omega) fun x hx => ?_))
     have hx := get_of hx rfl;rw [itemsErr_drop hx] at hI
     have key : ∀ e : Int, itemErr x.could.l lv.length = e → e ≠ 0 → (Sum.inl (2, (k : Int), e) : Sum (Int × Int × Int) (Int × (GS encL) × (List Int) × Int × Int × Int)) = (if (match itemsErr lv.length 0 its with | some (i, e) => ((2 : Int), (i : Int), e) | none => match doubtsErr 0 0 its with | some i => (3, (i : Int), 3) | none => (0, 0, 0)).2.2 = 0 then .inr (s, GSo true encL lv, matesOf s g, 0, 0, 0) else .inl (match itemsErr lv.length 0 its with | some (i, e) => ((2 : Int), (i : Int), e) | none => match doubtsErr 0 0 its with | some i => (3, (i : Int), 3) | none => (0, 0, 0))) := by
      intro e he h;rw [he, if_neg h] at hI;rw [hI];simp [h]
     unfold itemErr at hI key;refine .ite (fun hc => ?_) (fun hc => ?_)
     ·exact .some (key 3 (by rw [if_pos (by omega)]) (by omega))
     ·rw [if_neg (by omega : ¬ 4 < x.could.l.length)] at hI key;refine .chk (i64_small (by omega)) (.andx' (outside_ok (by omega)) ?_);refine .ite (fun hd => ?_) (fun hd => ?_)
      ·exact .some (key 4 (by rw [if_pos (by simpa using hd)]) (by omega))
      ·have hd' : ¬ ∃ n ∈ x.could.l, n < 0 ∨ (lv.length : Int) - 1 < n := by simpa using hd
       rw [if_neg hd'] at hI key;refine order_ok (by omega) (fun hb => ?_) (fun hb => ?_)
       ·exact key 2 (by rw [if_pos hb]) (by omega)
       ·rw [if_neg hb, if_pos rfl] at hI
        show Ok _ _;exact .chk (i64_small (by omega)) (.some ⟨rfl, hI⟩)
    ·rintro i hi hI;simp only [id] at hi;subst hi;unfold P_c_open_L1;rw [List.drop_length] at hI;refine .ifn (by omega) (.some ?_)
     show Ok _ _;rw [hI];simp only [itemsErr];refine Ok.seqx (Ok.count (σ := Int × Int) Prod.snd its.length (fun k s => ∃ d : Nat, s.1 = d ∧ d ≤ 3 ∧ doubtsErr 0 0 its = doubtsErr d k (its.drop k)) rfl ⟨0, rfl, by omega, rfl⟩ ?_ ?_)
     ·rintro k ⟨dd, i⟩ hk hi ⟨d, hd, hd3, hI⟩;simp only at hi hd;subst hi hd;unfold P_c_open_L3;refine .ifp (by omega) (Ok.seqx (.el (by omega) fun x hx => ?_))
      have hx := get_of hx rfl;rw [doubtsErr_drop hx] at hI;refine Ok.andx (P := fun j => j = ((if 1 < x.could.l.length then d + 1 else d : Nat) : Int)) ?_ ?_
      ·refine .ite (fun hc => .chk (i64_small (by omega)) (.some ?_)) (fun hc => .some ?_)
       ·rw [if_pos (by omega)]; rfl
       ·rw [if_neg (by omega)]
      ·rintro j rfl;generalize (if 1 < x.could.l.length then d + 1 else d) = e at hI;refine .ite (fun hc => ?_) (fun hc => ?_)
       ·rw [if_pos (by omega)] at hI;refine .some ?_
        show _ = _;rw [hI];simp
       ·rw [if_neg (by omega)] at hI;refine .some ?_
        show Ok _ _;exact .chk (i64_small (by omega)) (.some ⟨rfl, e, rfl, by omega, hI⟩)
     ·rintro ⟨dd, i⟩ hi ⟨d, hd, hd3, hI⟩;simp only at hi hd;subst hi hd;unfold P_c_open_L3;rw [List.drop_length] at hI;refine .ifn (by omega) (.some ?_)
      show Ok _ _;rw [hI];refine .andx' (hmt (by omega)) (.some ?_);simp [doubtsErr]
 ·rw [if_neg h0];exact .ifp h0 (.some (by rw [if_neg h0]))
end Go.Am
end
section
namespace Go.Am
theorem doubts_le : ∀ (l : List Item) (d i : Nat), d ≤ 3 → doubtsErr d i l = none → d + l.countP (fun x => decide (1 < x.could.l.length)) ≤ 3 := by
 intro l
 induction l with
 | nil => intro d i hd _; simpa using hd
 | cons x l ih =>
  intro d i hd h;unfold doubtsErr at h;rw [List.countP_cons]
  by_cases hx : 1 < x.could.l.length
  ·simp only [hx, if_true, decide_true] at h ⊢;split at h
   ·cases h
   ·have := ih _ _ (by omega) h;omega
  ·simp only [hx, if_false, decide_false] at h ⊢;split at h
   ·cases h
   ·have := ih _ _ (by omega) h
    simpa using this
theorem items_ok {n : Int} : ∀ (l : List Item) (i : Nat), itemsErr n i l = none → ∀ x ∈ l, itemErr x.could.l n = 0 := by
 intro l
 induction l with
 | nil => intro i _ x hx; simp at hx
 | cons a l ih =>
  intro i h x hx;unfold itemsErr at h;split at h
  ·rename_i h0
   rcases List.mem_cons.1 hx with rfl | hx
   ·exact h0
   ·exact ih _ h x hx
  ·cases h
theorem item_facts {l : List Int} {n : Int} (h : itemErr l n = 0) : l.length ≤ 4 ∧ (∀ x ∈ l, 0 ≤ x ∧ x ≤ n - 1) ∧ ¬ BadOrder l := by
 unfold itemErr at h;split at h
 ·omega
 ·split at h
  ·omega
  ·rename_i h1 h2
   split at h
   ·omega
   ·rename_i h3
    refine ⟨by omega, fun x hx => ?_, h3⟩
    have : ¬ (x < 0 ∨ n - 1 < x) := fun k => h2 ⟨x, hx, k⟩
    omega
def wid : List Item → Nat
 | [] => 1
 | x :: l => (chs x).length * wid l
theorem comps_len : ∀ (l : List Item) (p : List Int), (comps p l).length = wid l := by
 intro l
 induction l with
 | nil => intro p; rfl
 | cons x l ih =>
  intro p;unfold comps wid;rw [List.length_flatMap]
  have : ((chs x).map fun c => (comps (p ++ [c]) l).length) = (chs x).map fun _ => wid l := by simp [ih]
  rw [this];simp [List.map_const', List.sum_replicate_nat]
theorem chs_len (x : Item) (h : x.could.l.length ≤ 4) : 1 ≤ (chs x).length ∧ (chs x).length ≤ 4 ∧ (1 < (chs x).length ↔ 1 < x.could.l.length) := by
 unfold chs
 by_cases h0 : x.could.l = []
 ·rw [if_pos h0]; simp [h0]
 ·rw [if_neg h0]
  have : x.could.l.length ≠ 0 := fun e => h0 (List.eq_nil_of_length_eq_zero e)
  omega
theorem wid_le : ∀ (l : List Item), (∀ x ∈ l, x.could.l.length ≤ 4) → 1 ≤ wid l ∧ wid l ≤ 4 ^ l.countP (fun x => decide (1 < x.could.l.length)) := by
 intro l
 induction l with
 | nil => intro _; simp [wid]
 | cons x l ih =>
  intro h
  have hx := chs_len x (h x (by simp));obtain ⟨h1, h2⟩ := ih fun y hy => h y (by simp [hy])
  unfold wid;rw [List.countP_cons];refine ⟨Nat.mul_pos hx.1 h1, ?_⟩
  by_cases hc : 1 < x.could.l.length
  ·simp only [hc, decide_true, if_true, Nat.pow_succ];rw [Nat.mul_comm];exact Nat.mul_le_mul h2 hx.2.1
  ·have : (chs x).length = 1 := by have := hx.2.2; omega
   simp only [hc, decide_false, this]
   simpa using h2
def lev : List (List Int) → List Item → List (List Int)
 | out, [] => out
 | out, x :: l => lev (out.flatMap fun o => (chs x).map fun c => o ++ [c]) l
end Go.Am
end
section
namespace Go.Am
set_option linter.unusedVariables false
structure GoodCase (s : Int) (g : List Gat) (its : List Item) : Prop where
 b0 : (bookErr (bk s g)).2.2 = 0
 nl : (lvs s g).length ≤ 120
 il : its.length ≤ 120
 few : ∀ x ∈ its, x.could.l.length ≤ 4
 rng : ∀ x ∈ its, ∀ n ∈ x.could.l, 0 ≤ n ∧ n ≤ ((lvs s g).length : Int) - 1
 dbt : its.countP (fun x => decide (1 < x.could.l.length)) ≤ 3
theorem case_good {s : Int} {g : List Gat} {its : List Item} (h : (caseErr s g its).2.2 = 0) : GoodCase s g its := by
 unfold caseErr at h
 by_cases hb : (bookErr (bk s g)).2.2 = 0
 ·rw [if_pos hb] at h
  by_cases h1 : 120 < (leavesOf (bk s g)).length
  ·rw [if_pos h1] at h; simp at h
  ·rw [if_neg h1] at h
   by_cases h2 : 120 < its.length
   ·rw [if_pos h2] at h; simp at h
   ·rw [if_neg h2] at h;split at h
    ·rename_i i e he
     exact absurd h (itemsErr_pos _ _ _ _ he)
    ·rename_i he
     split at h
     ·simp at h
     ·rename_i hd
      have hi := fun x hx => item_facts (items_ok _ _ he x hx)
      exact ⟨hb, by unfold lvs; omega, by omega, fun x hx => (hi x hx).1, fun x hx => (hi x hx).2.1, by simpa using doubts_le _ _ _ (by omega) hd⟩
 ·rw [if_neg hb] at h; exact absurd h hb
theorem GoodCase.wid {s : Int} {g : List Gat} {its : List Item} (h : GoodCase s g its) : Go.Am.wid its ≤ 64 :=
 Nat.le_trans (wid_le _ h.few).2 (Nat.le_trans (Nat.pow_le_pow_right (by omega) h.dbt) (by decide))
theorem GoodCase.take {s : Int} {g : List Gat} {its : List Item} (h : GoodCase s g its) (k : Nat) : GoodCase s g (its.take k) :=
  ⟨h.b0, h.nl, Nat.le_trans (by rw [List.length_take]; omega) h.il, fun x hx => h.few x (List.mem_of_mem_take hx), fun x hx => h.rng x (List.mem_of_mem_take hx),
    Nat.le_trans ((List.take_sublist k its).countP_le) h.dbt⟩
end Go.Am
end
section
namespace Go.Am
set_option linter.unusedVariables false
structure GoodBook (s : Int) (g : List Gat) : Prop where
 b0 : (bookErr (bk s g)).2.2 = 0
 nl : (lvs s g).length ≤ 120
theorem GoodCase.book {s : Int} {g : List Gat} {its : List Item} (h : GoodCase s g its) : GoodBook s g := ⟨h.b0, h.nl⟩
theorem has_ok {l : List Int} {n : Int} (h : l.length ≤ 1000000) : P_r1_Has l n = some (decide (n ∈ l)) := by unfold P_r1_Has; rw [chk_pos (by omega)]
theorem mates_len (s : Int) (g : List Gat) : (matesOf s g).length = (lvs s g).length := matesTo_len _ _ _
def plainOf (t : List Int) : List Int := idxTo (isPlain t) t t.length
theorem mem_idxTo {p : Nat → Int → Bool} {t : List Int} {i : Nat} {n : Int} (hn : t[i]? = some n) : ∀ k, (i : Int) ∈ idxTo p t k ↔ i < k ∧ p i n = true := by
 intro k
 induction k with
 | zero => simp [idxTo]
 | succ k ih =>
  rw [idxTo, List.mem_append, ih]
  constructor
  ·rintro (⟨h1, h2⟩ | h)
   ·exact ⟨by omega, h2⟩
   ·split at h
    ·rename_i m hm
     split at h
     ·rename_i hp
      rw [List.mem_singleton] at h
      have : i = k := by omega
      subst this;rw [hn] at hm;cases hm;exact ⟨by omega, hp⟩
     ·cases h
    ·cases h
  ·rintro ⟨h1, h2⟩
   by_cases e : i = k
   ·subst e;rw [hn];simp only [h2, if_true];exact .inr (List.mem_singleton_self _)
   ·exact .inl ⟨by omega, h2⟩
theorem idxTo_nat {p : Nat → Int → Bool} {t : List Int} : ∀ k, ∀ x ∈ idxTo p t k, ∃ i : Nat, x = i ∧ i < k ∧ ∃ n, t[i]? = some n ∧ p i n = true := by
 intro k
 induction k with
 | zero => intro x h; cases h
 | succ k ih =>
  intro x h;rw [idxTo, List.mem_append] at h
  rcases h with h | h
  ·obtain ⟨i, h1, h2, h3⟩ := ih x h;exact ⟨i, h1, by omega, h3⟩
  ·split at h
   ·rename_i m hm
    split at h
    ·rename_i hp
     rw [List.mem_singleton] at h;exact ⟨k, h, by omega, m, hm, hp⟩
    ·cases h
   ·cases h
end Go.Am
end
section
namespace Go.Am
set_option linter.unusedVariables false
theorem follow_cons (last : Int) (p : S_copy_run × Int) (ps : List (S_copy_run × Int)) (a : Int) : follow last (p :: ps) a = follow last ps (if p.1.first > last then max a p.2 else a) := rfl
theorem follow_ge (last : Int) : ∀ (ps : List (S_copy_run × Int)) (a : Int), a ≤ follow last ps a := by
 intro ps
 induction ps with
 | nil => intro a; exact Int.le_refl _
 | cons p ps ih =>
  intro a;rw [follow_cons]
  have := ih (if p.1.first > last then max a p.2 else a);split at this <;> rename_i h
  ·rw [if_pos h]; omega
  ·rw [if_neg h]; exact this
def behind (l : List S_copy_run) (i : Nat) : List (S_copy_run × Int) := (l.drop (i + 1)).zip (chains (l.drop (i + 1)))
theorem top_follow (last : Int) : ∀ (ps : List (S_copy_run × Int)) (a : Int), (∀ p ∈ ps, p.1.first > last) → follow last ps a = max a (top (ps.map (·.2))) ∨ a < 0 := by
 intro ps
 induction ps with
 | nil => intro a _; simp only [follow, List.foldl_nil, List.map_nil, top]; omega
 | cons p ps ih =>
  intro a h;rw [follow_cons, if_pos (h p List.mem_cons_self), List.map_cons, top]
  have := ih (max a p.2) fun q hq => h q (List.mem_cons_of_mem _ hq)
  omega
end Go.Am
end
section
namespace Go.Am
set_option linter.unusedVariables false
theorem truths_in {s : Int} {g : List Gat} {its : List Item} (h : GoodCase s g its) : ∀ t ∈ truthsOf its, t.length = its.length ∧ ∀ x ∈ t, x = -1 ∨ 0 ≤ x ∧ x < (lvs s g).length := by
  suffices k : ∀ (l : List Item) (p t : List Int), (∀ x ∈ l, ∀ n ∈ x.could.l, 0 ≤ n ∧ n ≤ ((lvs s g).length : Int) - 1) → (∀ x ∈ p, x = -1 ∨ 0 ≤ x ∧ x < (lvs s g).length) → t ∈ comps p l → t.length = p.length + l.length ∧ ∀ x ∈ t, x = -1 ∨ 0 ≤ x ∧ x < (lvs s g).length by
    intro t ht
    have := k its [] t h.rng (by simp) ht
    exact ⟨by simpa using this.1, this.2⟩
  intro l
  induction l with
  | nil =>
    intro p t _ hp ht
    rw [comps, List.mem_singleton] at ht
    subst ht
    exact ⟨rfl, hp⟩
  | cons x l ih =>
    intro p t hl hp ht
    rw [comps, List.mem_flatMap] at ht
    obtain ⟨c, hc, ht⟩ := ht
    have hcr : c = -1 ∨ 0 ≤ c ∧ c < (lvs s g).length := by
      unfold chs at hc
      split at hc
      · rw [List.mem_singleton] at hc; exact .inl hc
      · have := hl x List.mem_cons_self c hc; exact .inr ⟨this.1, by omega⟩
    have := ih (p ++ [c]) t (fun y hy => hl y (List.mem_cons_of_mem _ hy)) (fun y hy => by
      rcases List.mem_append.1 hy with hy | hy
      · exact hp y hy
      · rw [List.mem_singleton] at hy; subst hy; exact hcr) ht
    refine ⟨?_, this.2⟩
    rw [this.1]
    simp
    omega
noncomputable def manyOf (s : Int) (g : List Gat) (t : List Int) : Int := allOf (lvs s g).length (matesOf s g) (gathOf (lvs s g)) t
end Go.Am
end
section
namespace Go.Am
set_option linter.unusedVariables false
def Doubtful (l : List Item) : Prop := ∃ x ∈ l, 1 < x.could.l.length
theorem openRes_err {s : Int} {g : List Gat} {its : List Item} (h : ¬ (caseErr s g its).2.2 = 0) : openRes s g its = .inl (caseErr s g its) := by unfold openRes; rw [if_neg h]
theorem openRes_ok {s : Int} {g : List Gat} {its : List Item} (h : (caseErr s g its).2.2 = 0) : openRes s g its = .inr (s, GSo true encL (lvs s g), matesOf s g, 0, 0, 0) := by unfold openRes; rw [if_pos h]
end Go.Am
end
section
namespace Go.Am
set_option linter.unusedVariables false
theorem cfaults_ok {s : Int} {g : List Gat} {its : List Item} (h : GoodCase s g its) {its' : List Item} {s' : Int} {t : List Int} (ht : t ∈ truthsOf its) :
  P_c_faults s' g its' (lvs s g) (matesOf s g) t = some ([], lostOf (lvs s g).length t, piecesOf (matesOf s g) (lostOf (lvs s g).length t), strangeOf t, twiceOf t, movedOf (runsOf (gathOf (lvs s g)) t), manyOf s g t) := by
 have ht' := truths_in h t ht
 have := h.il;exact faults_ok h.nl (mates_len s g) (by omega) (fun x hx => by rcases ht'.2 x hx with h | h <;> omega)
theorem truths_pos {its : List Item} (hf : ∀ x ∈ its, x.could.l.length ≤ 4) : ∃ t l, truthsOf its = t :: l := by
 have h1 := (wid_le its hf).1
 have h2 := comps_len its [];cases h : truthsOf its with
 | nil => unfold truthsOf at h; rw [h] at h2; simp at h2; omega
 | cons t l => exact ⟨t, l, rfl⟩
end Go.Am
end
section
namespace Go.Am
set_option linter.unusedVariables false
end Go.Am
end
section
namespace Go.Am
set_option linter.unusedVariables false
abbrev okCase (s : Int) (g : List Gat) (its : List Item) : Prop := (caseErr s g its).2.2 = 0
theorem valid_ok {s : Int} {g : List Gat} {its : List Item} : P_l_valid s g its = some (decide (okCase s g its)) := by
 unfold P_l_valid;rw [r4_Check_ok];rfl
theorem ints_ok {a b : List Int} (h : a.length ≤ 1000000) : P_r1_Ints a b = some (decide (a = b)) := by unfold P_r1_Ints; rw [chk_pos (by omega)]
end Go.Am
end
section
namespace Go.Am
set_option linter.unusedVariables false
theorem doubts_none : ∀ (l : List Item) (d i : Nat), d + l.countP (fun x => decide (1 < x.could.l.length)) ≤ 3 → doubtsErr d i l = none := by
 intro l
 induction l with
 | nil => intro d i _; rfl
 | cons x l ih =>
  intro d i h;rw [List.countP_cons] at h;unfold doubtsErr
  by_cases hx : 1 < x.could.l.length
  ·simp only [hx, if_true, decide_true] at h ⊢;rw [if_neg (by omega)];exact ih _ _ (by omega)
  ·simp only [hx, if_false, decide_false] at h ⊢;rw [if_neg (by omega)];exact ih _ _ (by simpa using h)
theorem items_none {n : Int} : ∀ (l : List Item) (i : Nat), (∀ x ∈ l, itemErr x.could.l n = 0) → itemsErr n i l = none := by
 intro l
 induction l with
 | nil => intro i _; rfl
 | cons a l ih =>
  intro i h;unfold itemsErr;rw [if_pos (h a List.mem_cons_self)];exact ih _ fun x hx => h x (List.mem_cons_of_mem _ hx)
theorem okCase_iff {s : Int} {g : List Gat} {its : List Item} : okCase s g its ↔ (bookErr (bk s g)).2.2 = 0 ∧ (lvs s g).length ≤ 120 ∧ its.length ≤ 120 ∧ (∀ x ∈ its, itemErr x.could.l ((lvs s g).length : Int) = 0) ∧ its.countP (fun x => decide (1 < x.could.l.length)) ≤ 3 := by
 constructor
 ·intro h
  have hg := case_good h;refine ⟨hg.b0, hg.nl, hg.il, ?_, hg.dbt⟩;unfold okCase caseErr at h
  have h1 : ¬ 120 < (leavesOf (bk s g)).length := by have := hg.nl; unfold lvs at this; omega
  rw [if_pos hg.b0, if_neg h1, if_neg (by have := hg.il; omega)] at h;split at h
  ·rename_i i e he
   exact absurd h (itemsErr_pos _ _ _ _ he)
  ·rename_i he
   exact items_ok _ _ he
 ·rintro ⟨h1, h2, h3, h4, h5⟩;unfold okCase caseErr;rw [if_pos h1, if_neg (by unfold lvs at h2; omega), if_neg (by omega)]
  have e1 : itemsErr ((leavesOf (bk s g)).length : Int) 0 its = none := items_none its 0 h4;rw [e1];simp only;rw [doubts_none its 0 0 (by omega)]
theorem itemErr_of {l : List Int} {n : Int} (h1 : l.length ≤ 4) (h2 : ∀ x ∈ l, 0 ≤ x ∧ x ≤ n - 1) (h3 : ¬ BadOrder l) : itemErr l n = 0 := by
 unfold itemErr;rw [if_neg (by omega), if_neg (fun ⟨x, hx, k⟩ => by have := h2 x hx; omega), if_neg h3]
theorem badOrder_one (x : Int) : ¬ BadOrder [x] := by
 rintro ⟨i, a, b, h1, h2, h3⟩
 have := (List.getElem?_eq_some_iff.1 h2).1;simp at this
end Go.Am
end
section
namespace Go.Am
set_option linter.unusedVariables false
theorem lostOf_congr {n : Nat} {t u : List Int} (h : ∀ x : Int, 0 ≤ x → (x ∈ t ↔ x ∈ u)) : lostOf n t = lostOf n u := by
 induction n with
 | zero => rfl
 | succ n ih =>
  rw [lostOf_succ, lostOf_succ, ih];simp only [h (n : Int) (by omega)]
end Go.Am
end
section
namespace Go.Am
set_option linter.unusedVariables false
def Common (t u : List Int) (k n : Nat) : Prop := ∃ j, k ≤ j ∧ j < n ∧ (j : Int) ∈ t ∧ (j : Int) ∈ u
def tr1 (l : List Item) : List Int := (truthsOf l).headD []
def DivOk (s : Int) (g : List Gat) (one other : List Item) : Prop := okCase s g one ∧ okCase s g other ∧ ¬ Doubtful one ∧ ¬ Doubtful other ∧ ¬ Common (tr1 one) (tr1 other) 0 (lvs s g).length
theorem DivOk.swap {s : Int} {g : List Gat} {one other : List Item} (h : DivOk s g one other) : DivOk s g other one := by
 obtain ⟨h1, h2, h3, h4, h5⟩ := h;exact ⟨h2, h1, h4, h3, fun ⟨j, a, b, c, d⟩ => h5 ⟨j, a, b, d, c⟩⟩
def itemOf (x : Int) : Item := ⟨GSo true encI [x]⟩
theorem truths_items : ∀ l : List Int, truthsOf (l.map itemOf) = [l] := by
 have : ∀ (l p : List Int), comps p (l.map itemOf) = [p ++ l] := by
  intro l
  induction l with
  | nil => intro p; simp [comps]
  | cons x l ih =>
   intro p;rw [List.map_cons, comps]
   have e : chs (itemOf x) = [x] := rfl;rw [e];simp [ih]
 intro l
 have := this l [];rw [List.nil_append] at this;exact this
theorem okCase_items {s : Int} {g : List Gat} (h : GoodBook s g) {l : List Int} (hl : l.length ≤ 120) (hr : ∀ x ∈ l, 0 ≤ x ∧ x < (lvs s g).length) : okCase s g (l.map itemOf) := by
 refine okCase_iff.2 ⟨h.b0, h.nl, by rw [List.length_map]; exact hl, fun x hx => ?_, ?_⟩
 ·obtain ⟨y, hy, rfl⟩ := List.mem_map.1 hx
  have := hr y hy;refine itemErr_of (by show [y].length ≤ 4; simp) (fun z hz => ?_) (badOrder_one y)
  have hz : z ∈ [y] := hz;rw [List.mem_singleton] at hz;subst hz;omega
 ·rw [List.countP_eq_zero.2]
  ·omega
  ·intro x hx;obtain ⟨y, hy, rfl⟩ := List.mem_map.1 hx
   have : ¬ 1 < (itemOf y).could.l.length := fun h => by have h : 1 < [y].length := h; simp at h
   rw [decide_eq_true_eq]; exact this
def rng (n : Nat) : List Int := (List.range n).map fun i : Nat => (i : Int)
end Go.Am
end
section
namespace Go.Am
set_option linter.unusedVariables false
noncomputable def pickT (s : Int) (g : List Gat) (b t : List Int) : List Int := if manyOf s g t < manyOf s g b then t else b
noncomputable def bestOf (s : Int) (g : List Gat) (its : List Item) : List Int := match truthsOf its with | [] => [] | t :: l => l.foldl (pickT s g) t
theorem pick_fold (s : Int) (g : List Gat) : ∀ (l : List (List Int)) (b : List Int), (l.foldl (pickT s g) b = b ∨ l.foldl (pickT s g) b ∈ l) ∧ manyOf s g (l.foldl (pickT s g) b) ≤ manyOf s g b ∧ ∀ t ∈ l, manyOf s g (l.foldl (pickT s g) b) ≤ manyOf s g t := by
 intro l
 induction l with
 | nil => intro b; exact ⟨.inl rfl, Int.le_refl _, fun t h => by cases h⟩
 | cons u l ih =>
  intro b;rw [List.foldl_cons];obtain ⟨h1, h2, h3⟩ := ih (pickT s g b u)
  have hp : (pickT s g b u = b ∨ pickT s g b u = u) ∧ manyOf s g (pickT s g b u) ≤ manyOf s g b ∧ manyOf s g (pickT s g b u) ≤ manyOf s g u := by
   unfold pickT;split
   ·exact ⟨.inr rfl, by omega, by omega⟩
   ·exact ⟨.inl rfl, by omega, by omega⟩
  refine ⟨?_, by omega, fun t ht => ?_⟩
  ·rcases h1 with h1 | h1
   ·rcases hp.1 with e | e
    ·exact .inl (h1.trans e)
    ·rw [e] at h1; exact .inr (by rw [e, h1]; exact List.mem_cons_self)
   ·exact .inr (List.mem_cons_of_mem _ h1)
  ·rcases List.mem_cons.1 ht with rfl | ht
   ·omega
   ·exact h3 t ht
theorem best_in {s : Int} {g : List Gat} {its : List Item} (hf : ∀ x ∈ its, x.could.l.length ≤ 4) : bestOf s g its ∈ truthsOf its ∧ ∀ t ∈ truthsOf its, manyOf s g (bestOf s g its) ≤ manyOf s g t := by
 obtain ⟨t, l, h⟩ := truths_pos hf
 have e : bestOf s g its = l.foldl (pickT s g) t := by unfold bestOf; rw [h]
 obtain ⟨h1, h2, h3⟩ := pick_fold s g l t;rw [e, h];refine ⟨?_, fun u hu => ?_⟩
 ·rcases h1 with h1 | h1
  ·rw [h1]; exact List.mem_cons_self
  ·exact List.mem_cons_of_mem _ h1
 ·rcases List.mem_cons.1 hu with rfl | hu
  ·exact h2
  ·exact h3 u hu
noncomputable def faultsSaid (s : Int) (g : List Gat) (its : List Item) : List Int × Bool × List Int × Bool × Int × List Int × Bool × List Int × Bool × List Int × Bool × Int × Int :=
 if okCase s g its then (bestOf s g its, false, lostOf (lvs s g).length (bestOf s g its), true, piecesOf (matesOf s g) (lostOf (lvs s g).length (bestOf s g its)), strangeOf (bestOf s g its), true, twiceOf (bestOf s g its), true, movedOf (runsOf (gathOf (lvs s g)) (bestOf s g its)), true, manyOf s g (bestOf s g its), 0)
 else ([], true, [], true, 0, [], true, [], true, [], true, 0, (caseErr s g its).2.2)
noncomputable def cst (s : Int) (g : List Gat) (t : List Int) : (List Int) × Bool × (List Int) × (List Int) × (List Int) × (List Int) × Bool × Int × Int :=
 (t, false, lostOf (lvs s g).length t, strangeOf t, twiceOf t, movedOf (runsOf (gathOf (lvs s g)) t), false, piecesOf (matesOf s g) (lostOf (lvs s g).length t), manyOf s g t)
theorem cstep {s : Int} {g : List Gat} {its : List Item} (h : GoodCase s g its) {b t : List Int} (ht : t ∈ truthsOf its) :
  P_c_Faults_L1 g its s (GSo true encL (lvs s g)) (matesOf s g) (cst s g b) t = some (.ag (cst s g (pickT s g b t))) := by
 have hl := (truths_in h t ht).1
 have hil := h.il
 have hgo : (GSo true encL (lvs s g)).l = lvs s g := rfl;unfold P_c_Faults_L1 cst;simp only [hgo];rw [cfaults_ok h ht];simp only [andx];rw [if_neg Bool.false_ne_true];simp only;unfold pickT
 by_cases hc : manyOf s g t < manyOf s g b
 ·rw [if_pos hc]
  have : ¬ (decide (manyOf s g t ≥ manyOf s g b) = true) := by simp; exact hc
  rw [if_neg this];simp only [seqx];rw [chk_pos (by omega), chk_pos (by simp)]
 ·rw [if_neg hc]
  have : decide (manyOf s g t ≥ manyOf s g b) = true := decide_eq_true (by omega);rw [if_pos this];rfl
theorem cfold {s : Int} {g : List Gat} {its : List Item} (h : GoodCase s g its) : ∀ (l : List (List Int)) (b : List Int), (∀ t ∈ l, t ∈ truthsOf its) →
  foldx (P_c_Faults_L1 g its s (GSo true encL (lvs s g)) (matesOf s g)) l (cst s g b) = some (.nx (cst s g (l.foldl (pickT s g) b))) := by
 intro l
 induction l with
 | nil => intro b _; rfl
 | cons u l ih =>
  intro b hm;unfold foldx;rw [cstep h (hm u List.mem_cons_self)];exact ih _ fun t ht => hm t (List.mem_cons_of_mem _ ht)
theorem cfirst {s : Int} {g : List Gat} {its : List Item} (h : GoodCase s g its) {t : List Int} (ht : t ∈ truthsOf its) :
  P_c_Faults_L1 g its s (GSo true encL (lvs s g)) (matesOf s g) ([], true, [], [], [], [], true, 0, 0) t = some (.ag (cst s g t)) := by
 have hl := (truths_in h t ht).1
 have hil := h.il
 have hgo : (GSo true encL (lvs s g)).l = lvs s g := rfl;unfold P_c_Faults_L1 cst;simp only [hgo];rw [cfaults_ok h ht];simp only [andx, if_true, Bool.false_eq_true, if_false, seqx];rw [chk_pos (by omega), chk_pos (by simp)]
theorem c_Faults_ok {s : Int} {g : List Gat} {its : List Item} : P_c_Faults s g its = some (faultsSaid s g its) := by
 unfold P_c_Faults faultsSaid;rw [open_ok]
 by_cases e : okCase s g its
 ·have h := case_good e;rw [openRes_ok e, if_pos e];simp only [andx];rw [chk_pos trivial, chk_pos ⟨h.il, h.few⟩];obtain ⟨t, l, htl⟩ := truths_pos h.few
  have hb : bestOf s g its = l.foldl (pickT s g) t := by unfold bestOf; rw [htl]
  have hfx : foldx (P_c_Faults_L1 g its s (GSo true encL (lvs s g)) (matesOf s g)) (truthsOf its) ([], true, [], [], [], [], true, 0, 0) = some (.nx (cst s g (bestOf s g its))) := by
   rw [htl, hb];unfold foldx;rw [cfirst h (by rw [htl]; exact List.mem_cons_self)];exact cfold h l t fun u hu => by rw [htl]; exact List.mem_cons_of_mem _ hu
  rw [hfx];simp only [seqx, cst]
 ·rw [openRes_err e, if_neg e];simp only [andx];rw [chk_pos e]
theorem follow_at (last : Int) : ∀ (ps : List (S_copy_run × Int)) (a : Int), follow last ps a = a ∨ ∃ p ∈ ps, p.1.first > last ∧ p.2 = follow last ps a := by
 intro ps
 induction ps with
 | nil => intro a; exact .inl rfl
 | cons p ps ih =>
  intro a;rw [follow_cons]
  rcases ih (if p.1.first > last then max a p.2 else a) with h | ⟨q, hq, h1, h2⟩
  ·rw [h];split
   ·rename_i hc
    by_cases hm : a ≤ p.2
    ·exact .inr ⟨p, List.mem_cons_self, hc, by omega⟩
    ·exact .inl (by omega)
   ·exact .inl rfl
  ·exact .inr ⟨q, List.mem_cons_of_mem _ hq, h1, h2⟩
theorem moved_count : ∀ (l : List S_copy_run) (b last : Int), 0 ≤ b → (b = 0 ∨ ∃ p ∈ l.zip (chains l), p.2 = b ∧ p.1.first > last) → ((movedFrom (l.zip (chains l)) b last).length : Int) + b = l.length := by
  intro l
  induction l with
  | nil =>
    intro b last hb h
    rcases h with rfl | ⟨p, hp, _⟩
    · rfl
    · cases hp
  | cons r l ih =>
    intro b last hb h
    rw [chains, List.zip_cons_cons, movedFrom]
    have hbd := chains_bounds (r :: l)
    by_cases hc : follow r.last (l.zip (chains l)) 0 + 1 = b ∧ r.first > last
    · rw [if_pos hc]
      have h1 := follow_ge r.last (l.zip (chains l)) 0
      have := ih (b - 1) r.last (by omega) (by
        rcases follow_at r.last (l.zip (chains l)) 0 with e | ⟨p, hp, h1, h2⟩
        · exact .inl (by omega)
        · exact .inr ⟨p, hp, by omega, h1⟩)
      rw [List.length_cons]
      show ((movedFrom (l.zip (chains l)) (b - 1) r.last).length : Int) + b = _
      omega
    · rw [if_neg hc]
      have := ih b last hb (by
        rcases h with h | ⟨p, hp, h1, h2⟩
        · exact .inl h
        · rw [chains, List.zip_cons_cons] at hp
          rcases List.mem_cons.1 hp with rfl | hp
          · exact absurd ⟨h1, h2⟩ hc
          · exact .inr ⟨p, hp, h1, h2⟩)
      rw [List.length_cons, List.length_cons]
      omega
theorem top_in : ∀ l : List Int, (∀ m ∈ l, 1 ≤ m) → top l = 0 ∨ top l ∈ l := by
 intro l
 induction l with
 | nil => intro _; exact .inl rfl
 | cons a l ih =>
  intro h;rw [top]
  have h1 := h a List.mem_cons_self
  have h2 := ih fun m hm => h m (List.mem_cons_of_mem _ hm)
  by_cases hc : top l ≤ a
  ·exact .inr (by rw [show max (top l) a = a by omega]; exact List.mem_cons_self)
  ·rw [show max (top l) a = top l by omega]
   rcases h2 with h2 | h2
   ·omega
   ·exact .inr (List.mem_cons_of_mem _ h2)
theorem moved_many {l : List S_copy_run} {N : Nat} (hr : ∀ r ∈ l, RunOk N r) : ((movedOf l).length : Int) + top (chains l) = l.length := by
 refine moved_count l _ _ (top_bounds (M := l.length) (by omega) _ fun m hm => (chains_bounds l m hm).2).1 ?_
 rcases top_in (chains l) (fun m hm => (chains_bounds l m hm).1) with h | h
 ·exact .inl h
 ·obtain ⟨i, hi, e⟩ := List.mem_iff_getElem.1 h
  have hil : i < l.length := by rw [chains_len] at hi; exact hi
  refine .inr ⟨(l[i], top (chains l)), ?_, rfl, by have := (hr l[i] (List.getElem_mem hil)).1; simp only; omega⟩;refine List.mem_iff_getElem?.2 ⟨i, ?_⟩;rw [List.getElem?_zip_eq_some];exact ⟨List.getElem?_eq_getElem hil, by rw [← e]; exact List.getElem?_eq_getElem hi⟩
end Go.Am
end
section
namespace Go.Am
set_option linter.unusedVariables false
theorem idxTo_pairwise (p : Nat → Int → Bool) (t : List Int) : ∀ k, (idxTo p t k).Pairwise (· < ·) := by
 intro k
 induction k with
 | zero => exact List.Pairwise.nil
 | succ k ih =>
  cases h : t[k]? with
  | none => rw [idxTo, h]; simpa using ih
  | some n =>
   rw [idxTo_succ h];split
   ·refine List.pairwise_append.2 ⟨ih, List.pairwise_singleton _ _, fun a ha b hb => ?_⟩;rw [List.mem_singleton] at hb;subst hb;obtain ⟨i, rfl, hi, _⟩ := idxTo_nat k a ha;omega
   ·exact ih
theorem mem_plainOf {t : List Int} {x : Int} : x ∈ plainOf t ↔ ∃ (j : Nat) (n : Int), x = j ∧ t[j]? = some n ∧ 0 ≤ n ∧ n ∉ t.take j := by
 constructor
 ·intro h;obtain ⟨j, rfl, hj, n, hn, hp⟩ := idxTo_nat _ x h
  have := of_decide_eq_true hp;exact ⟨j, n, rfl, hn, this.1, this.2⟩
 ·rintro ⟨j, n, rfl, hn, h1, h2⟩;exact (mem_idxTo hn _).2 ⟨(List.getElem?_eq_some_iff.1 hn).1, decide_eq_true ⟨h1, h2⟩⟩
theorem first_same {t : List Int} {i j : Nat} {n : Int} (h1 : t[i]? = some n) (h2 : n ∉ t.take i) (h3 : t[j]? = some n) (h4 : n ∉ t.take j) : i = j := by
 rcases Nat.lt_trichotomy i j with h | h | h
 ·exact absurd (mem_take h1 h) h4
 ·exact h
 ·exact absurd (mem_take h3 h) h2
theorem keyAt_nat {t : List Int} {j : Nat} {n : Int} (h : t[j]? = some n) : keyAt t (j : Int) = n := by
 unfold keyAt;rw [Int.toNat_natCast, h]
theorem plain_keys {t : List Int} : ((plainOf t).map (keyAt t)).Nodup := by
 rw [List.Nodup, List.pairwise_map];refine (idxTo_pairwise _ t t.length).imp_of_mem fun {a b} ha hb hlt e => ?_
 obtain ⟨i, n, rfl, h1, _, h2⟩ := mem_plainOf.1 ha;obtain ⟨j, m, rfl, h3, _, h4⟩ := mem_plainOf.1 hb;rw [keyAt_nat h1, keyAt_nat h3] at e;subst e
 have := first_same h1 h2 h3 h4;omega
theorem plain_sort {N : Nat} {t : List Int} (ht : t.length ≤ 120) (hin : ∀ x ∈ t, x = -1 ∨ 0 ≤ x ∧ x < N) (hN : N ≤ 120) : SortOk t (plainOf t) := by
 have hl : (plainOf t).length ≤ t.length := idxTo_len _ _ _;refine ⟨by omega, fun x hx => ?_, plain_keys, fun y hy => by rcases hin y hy with h | h <;> omega⟩;obtain ⟨j, n, rfl, hn, _⟩ := mem_plainOf.1 hx
 have := (List.getElem?_eq_some_iff.1 hn).1;omega
theorem c_has {tw : List Int} {z : Bool} {x : Int} (hl : tw.length ≤ 1000000) : ∃ r : Int, (seqx (iter (P_c_Bound_L2 tw z x) 0) fun _ => some (-1)) = some r ∧ (0 ≤ r ↔ x ∈ tw) := by
 suffices h : Ok (seqx (iter (P_c_Bound_L2 tw z x) 0) fun _ => some (-1)) (fun r => 0 ≤ r ↔ x ∈ tw) from h
 have hg : (GSo z encI tw).l = tw := rfl;refine Ok.seqx (Ok.count (fun s => s) tw.length (fun k _ => x ∉ tw.take k) rfl (by simp) ?_ ?_)
 ·rintro k i hk hx hq;subst hx;unfold P_c_Bound_L2;rw [hg];obtain ⟨y, hy⟩ : ∃ y, tw[k]? = some y := ⟨_, List.getElem?_eq_getElem hk⟩;refine .ifp (by omega) (.el (by omega) fun a ha => ?_)
  have ha := get_of ha rfl;rw [hy] at ha;cases ha;refine .ite (fun e => .some ?_) (fun e => .chk (i64_small (by omega)) (.some ⟨rfl, ?_⟩))
  ·show 0 ≤ (k : Int) ↔ _;exact ⟨fun _ => e ▸ List.mem_of_getElem? hy, fun _ => by omega⟩
  ·show x ∉ tw.take (k + 1);rw [take_snoc hy, List.mem_append, List.mem_singleton];exact fun h => h.elim hq e
 ·rintro i hx hq;unfold P_c_Bound_L2;rw [hg];refine .ifn (by omega) (.some ?_);rw [List.take_length] at hq
  show Ok (some (-1)) _;exact .some ⟨fun h => by omega, fun h => absurd h hq⟩
theorem c_items {t : List Int} (ht : t.length ≤ 120) : iter (P_c_Bound_L1 t false (twiceOf t) true) (0, []) = some (plainOf t) := by
 have hg : (GSo false encI t).l = t := rfl
 have htw : (twiceOf t).length ≤ t.length := idxTo_len _ _ _;refine Ok.get (Ok.count (fun s => s.1) t.length (fun k (x : Int × List Int) => x.2 = idxTo (isPlain t) t k) rfl rfl ?_ ?_)
 ·rintro k ⟨i, out⟩ hk hx hq;simp only at hx hq;subst hx hq;unfold P_c_Bound_L1;rw [hg];obtain ⟨n, hn⟩ : ∃ n, t[k]? = some n := ⟨_, List.getElem?_eq_getElem hk⟩
  have hl := idxTo_len (isPlain t) t k;refine .ifp (by omega) (Ok.andx (P := fun x => x = idxTo (isPlain t) t (k + 1)) (.el (by omega) fun a ha => ?_) ?_)
  ·have ha := get_of ha rfl;rw [hn] at ha;cases ha;refine .andx' (a := isPlain t k n) (Ok.get ?_) ?_
   ·refine .ite (fun h0 => ?_) (fun h0 => .some ?_)
    ·obtain ⟨r, hr, hiff⟩ := c_has (tw := twiceOf t) (z := true) (x := (k : Int)) (by omega);refine .andx' hr (.some ?_)
     have hm : (k : Int) ∈ twiceOf t ↔ k < t.length ∧ isTwice t k n = true := mem_idxTo hn t.length
     by_cases hmem : n ∈ t.take k
     ·have h1 : isPlain t k n = false := decide_eq_false (fun h => h.2 hmem)
      have h2 : 0 ≤ r := hiff.2 (hm.2 ⟨hk, decide_eq_true ⟨by omega, hmem⟩⟩);rw [h1];simp [h2]
     ·have h1 : isPlain t k n = true := decide_eq_true ⟨by omega, hmem⟩
      have h2 : ¬ 0 ≤ r := fun h => hmem (of_decide_eq_true (hm.1 (hiff.1 h)).2).2
      rw [h1]
      simp; omega
    ·exact (decide_eq_false (fun h => h0 h.1)).symm
   ·rw [idxTo_succ hn];cases isPlain t k n with
    | true => exact .ifp rfl (.chk (by simp; omega) (.some rfl))
    | false => exact .ifn (by simp) (.some rfl)
  ·rintro x rfl;exact .chk (i64_small (by omega)) (.some ⟨rfl, rfl⟩)
 ·rintro ⟨i, out⟩ hx hq;simp only at hx hq;unfold P_c_Bound_L1;rw [hg];exact .ifn (by omega) (.some hq)
noncomputable def boundSaid (s : Int) (g : List Gat) (its : List Item) : List Int × Int := if okCase s g its then (sortBy (keyAt (bestOf s g its)) (plainOf (bestOf s g its)), 0) else ([], (caseErr s g its).2.2)
theorem c_Bound_ok {s : Int} {g : List Gat} {its : List Item} : P_c_Bound s g its = some (boundSaid s g its) := by
 refine Ok.get ?_;unfold P_c_Bound boundSaid;refine .andx' c_Faults_ok ?_;unfold faultsSaid
 by_cases e : okCase s g its
 ·have h := case_good e
  have hil := h.il;rw [if_pos e, if_pos e];obtain ⟨hb, _⟩ := best_in (s := s) (g := g) h.few
  have hti := truths_in h _ hb;generalize bestOf s g its = t at *
  have hl := hti.1;exact .ifn (by simp) (.andx' (c_items (by omega)) (.chk (plain_sort (t := t) (by omega) hti.2 h.nl) (.some rfl)))
 ·rw [if_neg e, if_neg e];exact .ifp e (.some rfl)
end Go.Am
end
section
namespace Go.Am
set_option linter.unusedVariables false
theorem idxTo_none {p : Nat → Int → Bool} {t : List Int} (h : ∀ (i : Nat) (n : Int), t[i]? = some n → p i n = false) : ∀ k, idxTo p t k = [] := by
 intro k
 induction k with
 | zero => rfl
 | succ k ih =>
  rw [idxTo, ih];cases hn : t[k]? with
  | none => rfl
  | some n => simp only; rw [h k n hn]; rfl
theorem asc_take {t : List Int} (h : t.Pairwise (· < ·)) {k : Nat} {n : Int} (hn : t[k]? = some n) : ∀ x ∈ t.take k, x < n := by
 intro x hx;obtain ⟨i, hi, e⟩ := List.mem_iff_getElem.1 hx
 have hlt := (List.getElem?_eq_some_iff.1 hn).1
 have e2 := (List.getElem?_eq_some_iff.1 hn).2;rw [List.length_take] at hi;rw [List.getElem_take] at e
 have := List.pairwise_iff_getElem.1 h i k (by omega) hlt (by omega);omega
theorem asc_strange {t : List Int} (h0 : ∀ x ∈ t, 0 ≤ x) : strangeOf t = [] := idxTo_none (fun i n hn => decide_eq_false (by have := h0 n (List.mem_of_getElem? hn); omega)) _
theorem asc_twice {t : List Int} (h : t.Pairwise (· < ·)) : twiceOf t = [] := idxTo_none (fun i n hn => decide_eq_false fun ⟨_, hm⟩ => by have := asc_take h hn n hm; omega) _
def AscRuns (l : List S_copy_run) : Prop := l.Pairwise fun a b => a.last < b.first
theorem asc_top : ∀ l : List S_copy_run, AscRuns l → top (chains l) = l.length := by
 intro l
 induction l with
 | nil => intro _; rfl
 | cons r l ih =>
  intro h
  have h' := List.pairwise_cons.1 h
  have := ih h'.2;rw [chains, top]
  have hf : follow r.last (l.zip (chains l)) 0 = top (chains l) := by
   rcases top_follow r.last (l.zip (chains l)) 0 (fun p hp => by have := h'.1 p.1 (List.of_mem_zip hp).1; omega) with e | e
   ·rw [e, List.map_snd_zip (by rw [chains_len]; exact Nat.le_refl _)];omega
   ·omega
  rw [hf, List.length_cons];omega
theorem rnStep_concat (g : Int → Int) (l : List S_copy_run) (r : S_copy_run) (i n : Int) : rnStep g (l ++ [r]) i n = if r.last < n ∧ g r.last = g n then l ++ [⟨r.item, r.first, n⟩] else l ++ [r] ++ [⟨i, n, n⟩] := by
 unfold rnStep
 have e1 : (l ++ [r]).length - 1 = l.length := by simp
 have e2 : (l ++ [r])[l.length]? = some r := by simp
 rw [e1, e2];simp only;split
 ·rw [List.set_append_right _ _ (Nat.le_refl _)];simp
 ·rfl
theorem asc_runs {g : Int → Int} {t : List Int} (h : t.Pairwise (· < ·)) : ∀ k, AscRuns (runsTo g t k) ∧ ∀ r ∈ runsTo g t k, r.last ∈ t.take k := by
 intro k
 induction k with
 | zero => exact ⟨List.Pairwise.nil, fun r h => by cases h⟩
 | succ k ih =>
  cases hn : t[k]? with
  | none =>
   have e : t.take (k + 1) = t.take k := by rw [List.take_of_length_le, List.take_of_length_le] <;> (have := List.getElem?_eq_none_iff.1 hn; omega)
   rw [runsTo, hn, e];exact ih
  | some n =>
   have up : ∀ r ∈ runsTo g t k, r.last ∈ t.take (k + 1) := fun r hr => by rw [take_snoc hn, List.mem_append]; exact .inl (ih.2 r hr)
   have hlt : ∀ r ∈ runsTo g t k, r.last < n := fun r hr => asc_take h hn _ (ih.2 r hr)
   have hnm : n ∈ t.take (k + 1) := by rw [take_snoc hn]; simp
   rw [runsTo_succ hn];split
   ·generalize runsTo g t k = l at *
    rcases List.eq_nil_or_concat l with rfl | ⟨l0, r, rfl⟩
    ·refine ⟨List.pairwise_singleton _ _, fun r hr => ?_⟩
     have hr : r ∈ [(⟨(k : Int), n, n⟩ : S_copy_run)] := hr;rw [List.mem_singleton] at hr;subst hr;exact hnm
    ·rw [List.concat_eq_append] at *;rw [rnStep_concat]
     have hp := List.pairwise_append.1 ih.1;split
     ·refine ⟨List.pairwise_append.2 ⟨hp.1, List.pairwise_singleton _ _, fun a ha b hb => ?_⟩, fun x hx => ?_⟩
      ·rw [List.mem_singleton] at hb;subst hb;exact hp.2.2 a ha r (by simp)
      ·rcases List.mem_append.1 hx with hx | hx
       ·exact up x (by simp [hx])
       ·rw [List.mem_singleton] at hx; subst hx; exact hnm
     ·refine ⟨List.pairwise_append.2 ⟨ih.1, List.pairwise_singleton _ _, fun a ha b hb => ?_⟩, fun x hx => ?_⟩
      ·rw [List.mem_singleton] at hb;subst hb;exact hlt a ha
      ·rcases List.mem_append.1 hx with hx | hx
       ·exact up x hx
       ·rw [List.mem_singleton] at hx; subst hx; exact hnm
   ·exact ⟨ih.1, up⟩
theorem asc_moved {g : Int → Int} {t : List Int} {N : Nat} (h : t.Pairwise (· < ·)) (hN : ∀ x ∈ t, x < (N : Int)) : movedOf (runsOf g t) = [] := by
 have h1 := moved_many (l := runsOf g t) (runsTo_ok (g := g) hN t.length).1
 have h2 := asc_top (runsOf g t) (asc_runs h t.length).1;exact List.eq_nil_of_length_eq_zero (by omega)
theorem asc_many {s : Int} {g : List Gat} {t : List Int} (h : t.Pairwise (· < ·)) (hr : ∀ x ∈ t, 0 ≤ x ∧ x < (lvs s g).length) : manyOf s g t = piecesOf (matesOf s g) (lostOf (lvs s g).length t) := by
 unfold manyOf allOf;rw [asc_strange fun x hx => (hr x hx).1, asc_twice h, asc_moved h fun x hx => (hr x hx).2];simp
theorem first_at {t : List Int} {x : Int} (h : x ∈ t) : ∃ j : Nat, t[j]? = some x ∧ x ∉ t.take j := by
 induction t with
 | nil => cases h
 | cons a t ih =>
  by_cases e : x = a
  ·subst e; exact ⟨0, rfl, by simp⟩
  ·obtain ⟨j, h1, h2⟩ := ih ((List.mem_cons.1 h).resolve_left e);exact ⟨j + 1, h1, by simp [e, h2]⟩
theorem faults_one {s : Int} {g : List Gat} {t : List Int} (h : GoodBook s g) (hl : t.length ≤ 120) (hr : ∀ x ∈ t, 0 ≤ x ∧ x < (lvs s g).length) :
  P_c_Faults s g (t.map itemOf) = some (t, false, lostOf (lvs s g).length t, true, piecesOf (matesOf s g) (lostOf (lvs s g).length t), strangeOf t, true, twiceOf t, true, movedOf (runsOf (gathOf (lvs s g)) t), true, manyOf s g t, 0) := by
 have hb : bestOf s g (t.map itemOf) = t := by unfold bestOf; rw [truths_items]; rfl
 rw [c_Faults_ok];unfold faultsSaid;rw [if_pos (okCase_items h hl hr), hb]
theorem CopyBound_true (s : Int) (g : List Gat) (its : List Item) : P_law_CopyBound s g its = some true := by
 refine Ok.get ?_;unfold P_law_CopyBound
 by_cases e : okCase s g its
 ·have h := case_good e
  have hil := h.il
  have hnl := h.nl
  have hB : P_c_Bound s g its = some (sortBy (keyAt (bestOf s g its)) (plainOf (bestOf s g its)), 0) := by rw [c_Bound_ok]; unfold boundSaid; rw [if_pos e]
  have hF := c_Faults_ok (s := s) (g := g) (its := its);unfold faultsSaid at hF;rw [if_pos e] at hF;obtain ⟨hb, _⟩ := best_in (s := s) (g := g) h.few
  have hti := truths_in h _ hb;generalize bestOf s g its = t at *
  have htl := hti.1
  have hperm := sortBy_perm (keyAt t) (plainOf t)
  have hsort := sortBy_sorted (plain_keys (t := t))
  have hpl : (plainOf t).length ≤ t.length := idxTo_len _ _ _
  have hmem : ∀ x, x ∈ sortBy (keyAt t) (plainOf t) ↔ x ∈ plainOf t := fun x => hperm.mem_iff
  have hlen := hperm.length_eq;generalize sortBy (keyAt t) (plainOf t) = o at *;refine .andx' hB (.andx' valid_ok (.ifp (decide_eq_true e) (.andx' hF ?_)))
  have hg1 : (GSo false encI t).l = t := rfl
  have hg : ∀ l : List Int, (GSo true encI l).l = l := fun _ => rfl
  simp only [hg1, hg];refine Ok.seqx (.andx' (a := false) (Ok.get (.ifn (by simp) (.ifn (by simp) (.some (decide_eq_false (by omega)))))) (.ifn (by simp) (.some ?_)))
  show Ok _ _
  have hnd : o.Nodup := hsort.imp fun {a b} h e => by subst e; omega
  refine Ok.seqx (.eq (a := Ex.nx (o.map fun i => [keyAt t i])) (Ok.get (Ok.count (fun s => s.1) o.length (fun k (x : Int × List (List Int)) => x.2 = (o.take k).map fun i => [keyAt t i]) rfl rfl ?_ ?_)) ?_)
  ·rintro k ⟨i, out⟩ hk hx hq;simp only at hx hq;subst hx hq;obtain ⟨y, hy⟩ : ∃ y, o[k]? = some y := ⟨_, List.getElem?_eq_getElem hk⟩;obtain ⟨j, n, rfl, hn, h0, _⟩ := mem_plainOf.1 ((hmem y).1 (List.mem_of_getElem? hy))
   have hjt := (List.getElem?_eq_some_iff.1 hn).1
   have hkey := keyAt_nat hn
   have hnot : (j : Int) ∉ o.take k := fun hm => by
    obtain ⟨i, hi, e1⟩ := List.mem_iff_getElem.1 hm;rw [List.length_take] at hi;rw [List.getElem_take] at e1
    have e2 := (List.getElem?_eq_some_iff.1 hy).2
    have := (List.getElem_inj hnd).1 (e1.trans e2.symm);omega
   have hel : ∀ {β : Type} {k' : Int → Option β} {Q : β → Prop}, Ok (k' (j : Int)) Q → Ok (el o (k : Int) k') Q := fun hk' => .el (by omega) fun a ha => by
    have ha := get_of ha rfl;rw [hy] at ha;cases ha;exact hk'
   have het : ∀ {β : Type} {k' : Int → Option β} {Q : β → Prop}, Ok (k' n) Q → Ok (el t (j : Int) k') Q := fun hk' => .el (by omega) fun a ha => by
    have ha := get_of ha rfl;rw [hn] at ha;cases ha;exact hk'
   unfold P_law_CopyBound_L1;rw [hg1];refine .ifp (by omega) (Ok.seqx (Ok.seqx (.andx' (a := false) (Ok.get ?_) (.ifn (by simp) (.some ?_)))))
   ·refine hel (.ifn (by omega) (hel (.ifn (by omega) (.chk (by omega) (hel (.andx' (a := false) ?_ (.ifn (by simp) (hel (het (.some (decide_eq_false (by omega))))))))))))
    have e1 : ((k : Int) - 0).toNat = k := by omega
    have e2 : (0 : Int).toNat = 0 := rfl;rw [e1, e2, List.drop_zero, has_ok (by rw [List.length_take]; omega), decide_eq_false hnot]
   ·show Ok _ _;refine hel (het (.chk (by rw [List.length_map, List.length_take]; simp; omega) (.some ?_)));refine .chk (i64_small (by omega)) (.some ⟨rfl, ?_⟩)
    show _ = _;rw [take_snoc hy, List.map_append, ← hkey];rfl
  ·rintro ⟨i, out⟩ hx hq;simp only at hx hq;unfold P_law_CopyBound_L1;refine .ifn (by omega) (.some ?_)
   show Ex.nx out = _;rw [hq, List.take_length]
  show Ok _ _;dsimp only
  have hmm : List.map (fun x => (⟨GSo true encI x⟩ : Item)) (o.map fun i => [keyAt t i]) = (o.map (keyAt t)).map itemOf := by rw [List.map_map, List.map_map]; rfl
  rw [hmm]
  have hkr : ∀ x ∈ o.map (keyAt t), x ∈ t ∧ 0 ≤ x ∧ x < (lvs s g).length := fun x hx => by
   obtain ⟨y, hy, rfl⟩ := List.mem_map.1 hx;obtain ⟨j, n, rfl, hn, h0, _⟩ := mem_plainOf.1 ((hmem y).1 hy);rw [keyAt_nat hn]
   have := List.mem_of_getElem? hn;refine ⟨this, h0, ?_⟩
   rcases hti.2 n this with h | h <;> omega
  have hasc : (o.map (keyAt t)).Pairwise (· < ·) := by rw [List.pairwise_map]; exact hsort.imp fun {a b} h => by omega
  have hfo := faults_one h.book (t := o.map (keyAt t)) (by rw [List.length_map]; omega) (fun x hx => (hkr x hx).2)
  have hlost : lostOf (lvs s g).length (o.map (keyAt t)) = lostOf (lvs s g).length t := lostOf_congr fun x hx => by
   constructor
   ·exact fun h => (hkr x h).1
   ·intro h;obtain ⟨j, h1, h2⟩ := first_at h;refine List.mem_map.2 ⟨j, (hmem _).2 (mem_plainOf.2 ⟨j, x, rfl, h1, hx, h2⟩), keyAt_nat h1⟩
  have hstr := asc_strange (t := o.map (keyAt t)) fun x hx => (hkr x hx).2.1
  have htwi := asc_twice hasc
  have hmov := asc_moved (g := gathOf (lvs s g)) (N := (lvs s g).length) hasc fun x hx => (hkr x hx).2.2
  have hmany := asc_many (s := s) (g := g) hasc fun x hx => (hkr x hx).2
  rw [hstr, htwi, hmov, hmany, hlost] at hfo
  have hlo := lostOf_len (lvs s g).length t;refine .andx' hfo ?_;simp only [hg];refine .andx' (a := true) (Ok.get (.ifp trivial (.andx' (ints_ok (by omega)) (.ifp (by simp) (.ifp trivial (.ifp trivial (.chk (i64_small (by simp)) (.chk (i64_small (by simp)) (.ifp (by simp) (.some rfl)))))))))) (.some rfl)
 ·have hB : P_c_Bound s g its = some ([], (caseErr s g its).2.2) := by rw [c_Bound_ok]; unfold boundSaid; rw [if_neg e]
  refine .andx' hB (.andx' valid_ok (.ifn (by simp [e]) (.andx' (a := true) (Ok.get (.ifp e (.ifp rfl (.some rfl)))) (.some rfl))))
end Go.Am
end
section

end
section
namespace Go.Am.Ythckcbfijdambaa
open Go.Am Go.RowKit
theorem copyBound_calls (w : World) (c_Book_Signed : Int) (c_Book_Gatherings : GS encG) (c_Items : GS encIt) (xs : List Value) (h : RelL (snapR w 0) [.agg [iv (c_Book_Signed), c_Book_Gatherings.v, c_Items.v]] xs) :
  Calls Go.Proofs.Try.prog 7 xs.toArray w fun e w' => e = .returned (.bool true) ∧ Below w.heap.size w w' :=
 ((w_law_CopyBound c_Book_Signed c_Book_Gatherings c_Items true (CopyBound_true _ _ _)).runsTo.calls (EL_good 7) w xs h).mono fun e w' ⟨x, he, hr, hb⟩ => ⟨by rw [he]; cases hr; rfl, hb⟩
end Go.Am.Ythckcbfijdambaa
namespace Go.Proofs.Ythckcbfijdambaa.copyBound
open Go.ChangeShapes Go.WideShapes Go.ChangeAt Go.RowKit
set_option linter.unusedVariables false
theorem own : ownKnob Try.prog.godebug = none := by kernel_rfl
theorem laid : laidOutB Try.prog = true := by kernel_rfl
set_option maxRecDepth 100000 in
theorem lifted (os : Os) (started : os.Started) (H : Type) (enc : TypeId × Value → H) :
  ReturnsInHanded {} Try.checked os 7 .any (Rows.copyBoundSpec.pre6 enc Try.prog Try.f7 Rows.copyBoundRow.domain false) (Rows.copyBoundSpec.post enc Try.prog Try.f7 false true false false) := by
 refine returnsInHanded_of_change (C := Try.checked) own started (by kernel_rfl) Try.func7
  (ChangeSpec.witness6 (enc := enc) (C := Try.checked) false ⟨#[], #[.agg #[.int .i64 0, .slice none 0 0, .slice none 0 0]], []⟩ 8 (by kernel_rfl) (by kernel_rfl) (by kernel_rfl) (by kernel_rfl)) ?_
 intro W base args ds gs before hval0 hW hcnd _
 have hW' := hW;obtain ⟨p, q, hA0, hV, rfl, hfz, hnd⟩ := hW
 have hA : DataW.TrodAll enc Try.prog W 0 (fun _ => true) true Try.f7.params.toList args.toList ds p := hA0
 have hval : ∀ (j : Nat) t v, Try.f7.params[j]? = some t → args[j]? = some v → Value.okWide Try.prog W .any base t v := hval0;rw [Try.params7] at hA hval;obtain ⟨v0, d0, rfl, rfl, h0⟩ := trodAll_one hA;obtain ⟨rfl, rfl⟩ := trodVars_none hV;obtain ⟨x0, r0⟩ := Go.Am.Ythckcbfijdambaa.li_36.arg Try.underlying36 (hval 0 36 v0 rfl rfl) h0
 clear hA0 hval0
 refine (Go.Am.Ythckcbfijdambaa.copyBound_calls W x0.book.signed x0.book.gs x0.items [v0] (.cons r0 (.nil _))).mono fun e W' ⟨he, bel⟩ => ?_
 subst he
 have hlt : ∀ x ∈ p, x.block < W.heap.size := fun x hx => hW'.lt x (by simpa using hx)
 have k0 := Below.trod laid (by kernel_rfl) (of_decide_eq_true (by kernel_rfl)) h0 bel fun x hx => hlt x (by simp [hx])
 exact ⟨_, rfl, _, _, _, [], _, [], hW', trodAll_mk1 (shut_bool Try.underlying4 _), trodAll_mk1 k0, rfl, bel.frame _, fun h => by cases h⟩
theorem over : Rows.copyBoundRow.holds Try.pinned (OpenSpec.ofChange Rows.copyBoundSpec) :=
 OpenClaim.holds_of_wide 7 Try.f7 rfl rfl rfl rfl rfl rfl rfl ⟨rfl, rfl, rfl, rfl, rfl⟩ rfl rfl rfl rfl rfl (by kernel_rfl) Try.func7 (by kernel_rfl)
  (of_decide_eq_true (by kernel_rfl)) (by unfold Func.isWrapper; first | (rw [if_pos (by decide +kernel)]; kernel_rfl) | (rw [if_neg (by decide +kernel)]; exact ⟨rfl, rfl⟩))
  (fun os started H enc _ => lifted os started H enc)
theorem proved : Rows.CopyBoundSaid := over
#print axioms proved
end Go.Proofs.Ythckcbfijdambaa.copyBound
end
