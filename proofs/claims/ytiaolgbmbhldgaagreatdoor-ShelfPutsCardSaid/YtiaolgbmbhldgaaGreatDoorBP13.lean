/- Part 13. -/
import Derived.Test.YtiaolgbmbhldgaaGreatDoorBP12
import Derived.Test.YtiaolgbmbhldgaaGreatDoorBP2
section
namespace Go.Am.YtiaolgbmbhldgaaGreatDoor
open Go.Am Go.RowKit
set_option linter.unusedVariables false
set_option linter.unusedSimpArgs false
set_option maxRecDepth 10000 in
theorem tf_w1_Has {k : Nat} (hk : 0 ≤ k) {C : List Thing} {v_list : AV} {list : List Int} {n : Int} (h_list : Rdl C encI v_list list) {r : Bool} (h : P_w1_Has list n = some r) :
  TF (EL k) 47 [v_list, iv (n)] C (RepF (fun (w : Unit) => bv r) (fun (w : Unit) => C)) := by
 unfold P_w1_Has at h;refine TF.enter (fn := Go.Proofs.Tryz.f47) rfl rfl rfl rfl rfl (zU rfl (zA R4 (zN ?_)))
 show T _ _ _ _ _ _;apply T.join (r := r) (W := Unit) (fun j w => ⟨[], [], C⟩) h
 ·intro j h;refine zU rfl (zA R4 (zN (zB ?_)))
  show T _ _ _ _ _ _;apply T.iter (r := j) (W := Unit) (fun j w => ⟨[], [(0, v_list), (1, iv (n)), (5, iv (j))], C⟩) (w0 := ()) h
  ·exact (sb .refl)
  rintro i _ a h;unfold P_w1_Has_L1 at h;refine zS (zU rfl (zM R4 (zM R4 (zV R3 (Val.len_l h_list mem0 rfl rfl) ?_))));obtain ⟨c9, hc9⟩ := zY (i < (list.length : Int));refine zV R3 (Val.lss hc9 rfl rfl) (zN ?_);obtain ⟨rfl, hc9, h⟩ | ⟨rfl, hc9, h⟩ := zI hc9 h
  ·refine zC rfl (zK (zS (zB (zU rfl (zM R4 (zM R4 ?_))))));obtain ⟨a14, hia14, ea14, h⟩ := el_some h;refine TO.fact (rdl_at h_list mem0 hia14 ea14) (fun hp=>?_);obtain ⟨pa14, hpa14, hva14⟩ := hp;refine zV R3 (hva14 ⟨rfl, rfl⟩ rfl rfl) (zV R3 (Val.load_e hpa14 mem0 ⟨_, rfl, rfl⟩ rfl rfl) (zM R4 ?_));obtain ⟨c17, hc17⟩ := zY (a14 = n);refine zV R3 (Val.eql hc17 rfl rfl) (zN ?_);obtain ⟨rfl, hc17, h⟩ | ⟨rfl, hc17, h⟩ := zI hc17 h
   ·refine zC rfl (zU rfl (zA R4 (zN (zR ?_))));cases h;exact ⟨ret_ne, ⟨ret_ne, ⟨rfl, _, rfl, ⟨(), rfl, .refl⟩⟩⟩⟩
   refine zD rfl (zK (zT rfl (zM R4 ?_)));obtain ⟨hk11, h⟩ := chk_some h;refine zV R3 (Val.add rfl rfl hk11) (zA R4 (zN ?_));cases h;exact ⟨rfl, (), (sb .refl)⟩
  refine zD rfl (zE ?_);cases h;exact ⟨ex_ne, ⟨rfl, (), (sb .refl)⟩⟩
 ·rintro _ _ h;refine zU rfl (zA R4 (zN (zR ?_)));cases h;exact ⟨rfl, _, rfl, ⟨(), rfl, .refl⟩⟩
set_option maxRecDepth 10000 in
theorem tf_w1_Before {k : Nat} (hk : 0 ≤ k) {C : List Thing} {v_a : AV} {a_ : List Int} {v_b : AV} {b : List Int} (h_a : Rdl C encI v_a a_) (h_b : Rdl C encI v_b b) {r : Bool} (h : P_w1_Before a_ b = some r) :
  TF (EL k) 61 [v_a, v_b] C (RepF (fun (w : Unit) => bv r) (fun (w : Unit) => C)) := by
 unfold P_w1_Before at h;refine TF.enter (fn := Go.Proofs.Tryz.f61) rfl rfl rfl rfl rfl (zU rfl (zA R4 (zN ?_)))
 show T _ _ _ _ _ _;apply T.join (r := r) (W := Unit) (fun j w => ⟨[], [(0, v_a), (1, v_b)], C⟩) h
 ·intro j h;refine zU rfl (zA R4 (zN (zB ?_)))
  show T _ _ _ _ _ _;apply T.iter (r := j) (W := Unit) (fun j w => ⟨[], [(0, v_a), (1, v_b), (5, iv (j))], C⟩) (w0 := ()) h
  ·exact (sb .refl)
  rintro i _ a h;unfold P_w1_Before_L1 at h
  show T _ _ _ _ _ _;apply T.join (r := a) (W := Unit) (fun j w => ⟨[], [(0, v_a), (1, v_b), (5, iv (i))], C⟩) h
  ·intro j h
   show T _ _ _ _ _ _;apply T.joinA (r := j) (W := Unit) (fun j w => ⟨[], [(0, v_a), (1, v_b), (5, iv (i)), (15, bv j)], C⟩) h
   ·intro j h;refine zT rfl (zM R4 (zM R4 (zV R3 (Val.len_l h_a mem0 rfl rfl) ?_)));obtain ⟨c9, hc9⟩ := zY (i < (a_.length : Int));refine zV R3 (Val.lss hc9 rfl rfl) (zM R4 ?_);obtain ⟨rfl, hc9, h⟩ | ⟨rfl, hc9, h⟩ := zI hc9 h
    ·refine zM R4 (zM R4 (zV R3 (Val.len_l h_b mem0 rfl rfl) ?_));obtain ⟨c14, hc14⟩ := zY (i < (b.length : Int));refine zV R3 (Val.lss hc14 rfl rfl) (zP R6 (zN ?_));subst hc14;cases h;exact ⟨rfl, (), (sb .refl)⟩
    refine zO R3 (zO R3 (zO R3 (zO R3 (zP R6 (zN ?_)))));cases h;exact ⟨rfl, (), (sb .refl)⟩
   ·rintro x15 _ h;obtain ⟨rfl, h⟩ | ⟨rfl, h⟩ := zZ h
    ·refine zC rfl (zK ?_);cases h;exact ⟨rfl, (), (sb .refl)⟩
    refine zD rfl (zE ?_);cases h;exact ⟨ex_ne, ⟨ex_ne, ⟨rfl, (), (sb .refl)⟩⟩⟩
  ·rintro _ _ h;refine zS (zB (zS (T.draw (fun v => sameC_refl v) (l1 := [0, 1, 2, 3, 4, 5, 6, 7, 8]) (l2 := []) (by kernel_rfl) (by kernel_rfl) (zM R4 (zM R4 ?_)))));obtain ⟨a20, hia20, ea20, h⟩ := el_some h;refine TO.fact (rdl_at h_a mem0 hia20 ea20) (fun hp=>?_);obtain ⟨pa20, hpa20, hva20⟩ := hp;refine zV R3 (hva20 ⟨rfl, rfl⟩ rfl rfl) (zV R3 (Val.load_e hpa20 mem0 ⟨_, rfl, rfl⟩ rfl rfl) (zM R4 (zM R4 ?_)));obtain ⟨a24, hia24, ea24, h⟩ := el_some h;refine TO.fact (rdl_at h_b mem0 hia24 ea24) (fun hp=>?_);obtain ⟨pa24, hpa24, hva24⟩ := hp;refine zV R3 (hva24 ⟨rfl, rfl⟩ rfl rfl) (zV R3 (Val.load_e hpa24 mem0 ⟨_, rfl, rfl⟩ rfl rfl) ?_);obtain ⟨c26, hc26⟩ := zY (¬ a20 = a24);refine zV R3 (Val.neq hc26 rfl rfl) (zN ?_);obtain ⟨rfl, hc26, h⟩ | ⟨rfl, hc26, h⟩ := zI hc26 h
   ·refine zC rfl (zS (T.draw (fun v => sameC_refl v) (l1 := [0, 1, 2, 3, 4, 5, 6, 7, 8, 9]) (l2 := []) (by kernel_rfl) (by kernel_rfl) (zM R4 (zM R4 ?_))));obtain ⟨a29, hia29, ea29, h⟩ := el_some h;refine TO.fact (rdl_at h_a mem0 hia29 ea29) (fun hp=>?_);obtain ⟨pa29, hpa29, hva29⟩ := hp;refine zV R3 (hva29 ⟨rfl, rfl⟩ rfl rfl) (zV R3 (Val.load_e hpa29 mem0 ⟨_, rfl, rfl⟩ rfl rfl) (zM R4 (zM R4 ?_)));obtain ⟨a33, hia33, ea33, h⟩ := el_some h;refine TO.fact (rdl_at h_b mem0 hia33 ea33) (fun hp=>?_);obtain ⟨pa33, hpa33, hva33⟩ := hp;refine zV R3 (hva33 ⟨rfl, rfl⟩ rfl rfl) (zV R3 (Val.load_e hpa33 mem0 ⟨_, rfl, rfl⟩ rfl rfl) ?_);obtain ⟨c35, hc35⟩ := zY (a29 < a33);refine zV R3 (Val.lss hc35 rfl rfl) (zA R4 (zN (zR ?_)));subst hc35;cases h;exact ⟨ret_ne, ⟨ret_ne, ⟨rfl, _, rfl, ⟨(), rfl, .refl⟩⟩⟩⟩
   refine zD rfl (zK (zT rfl (zM R4 ?_)));obtain ⟨hk17, h⟩ := chk_some h;refine zV R3 (Val.add rfl rfl hk17) (zA R4 (zN ?_));cases h;exact ⟨rfl, (), (sb .refl)⟩
 ·rintro _ _ h;refine zU rfl (zM R4 (zV R3 (Val.len_l h_a mem0 rfl rfl) (zM R4 (zV R3 (Val.len_l h_b mem0 rfl rfl) ?_))));obtain ⟨c40, hc40⟩ := zY ((a_.length : Int) < (b.length : Int));refine zV R3 (Val.lss hc40 rfl rfl) (zA R4 (zN (zR ?_)));subst hc40;cases h;exact ⟨rfl, _, rfl, ⟨(), rfl, .refl⟩⟩
set_option maxRecDepth 10000 in
theorem tf_w1_Ints {k : Nat} (hk : 0 ≤ k) {C : List Thing} {v_a : AV} {a_ : List Int} {v_b : AV} {b : List Int} (h_a : Rdl C encI v_a a_) (h_b : Rdl C encI v_b b) {r : Bool} (h : P_w1_Ints a_ b = some r) :
  TF (EL k) 27 [v_a, v_b] C (RepF (fun (w : Unit) => bv r) (fun (w : Unit) => C)) := by
 unfold P_w1_Ints at h;refine TF.enter (fn := Go.Proofs.Tryz.f27) rfl rfl rfl rfl rfl (zU rfl (zA R4 (zN (zU rfl (zM R4 (zV R3 (Val.len_l h_a mem0 rfl rfl) (zM R4 (zV R3 (Val.len_l h_b mem0 rfl rfl) ?_))))))));obtain ⟨c11, hc11⟩ := zY ((a_.length : Int) = (b.length : Int));refine zV R3 (Val.eql hc11 rfl rfl) (zA R4 (zN ?_))
 show T _ _ _ _ _ _;apply T.joinA (r := r) (W := Unit) (fun j w => ⟨[], [(5, bv j)], C⟩) h
 ·intro j h;refine zU rfl (zA R4 (zN (zB ?_)));subst hc11
  show T _ _ _ _ _ _;apply T.iter (r := j) (W := Unit) (fun j w => ⟨[], [(0, v_a), (1, v_b), (5, bv j.1), (6, iv (j.2))], C⟩) (w0 := ()) h
  ·exact (sb .refl)
  rintro ⟨same, i⟩ _ a h;unfold P_w1_Ints_L1 at h;dsimp only at h;dsimp only
  show T _ _ _ _ _ _;apply T.join (r := a) (W := Unit) (fun j w => ⟨[], [(0, v_a), (1, v_b), (6, iv (i))], C⟩) h
  ·intro j h
   show T _ _ _ _ _ _;apply T.joinA (r := j) (W := Unit) (fun j w => ⟨[], [(0, v_a), (1, v_b), (5, bv j.1), (6, iv (i)), (18, bv j.2)], C⟩) h
   ·intro j h;refine zT rfl (zM R4 (zM R4 ?_));obtain ⟨rfl, h⟩ | ⟨rfl, h⟩ := zZ h
    ·refine zM R4 (zM R4 (zV R3 (Val.len_l h_a mem0 rfl rfl) ?_));obtain ⟨c17, hc17⟩ := zY (i < (a_.length : Int));refine zV R3 (Val.lss hc17 rfl rfl) (zP R6 (zN ?_));subst hc17;cases h;exact ⟨rfl, (), (sb .refl)⟩
    refine zO R3 (zO R3 (zO R3 (zO R3 (zP R6 (zN ?_)))));cases h;exact ⟨rfl, (), (sb .refl)⟩
   ·rintro ⟨same_2, x18⟩ _ h;dsimp only at h;dsimp only;obtain ⟨rfl, h⟩ | ⟨rfl, h⟩ := zZ h
    ·refine zC rfl (zK ?_);cases h;exact ⟨rfl, (), (sb .refl)⟩
    refine zD rfl (zE ?_);cases h;exact ⟨ex_ne, ⟨ex_ne, ⟨rfl, (), (sb .refl)⟩⟩⟩
  ·rintro _ _ h;refine zS (zB (T.draw (fun v => sameC_refl v) (l1 := [0, 1, 2, 3, 4, 5, 6, 7, 8, 9]) (l2 := []) (by kernel_rfl) (by kernel_rfl) (zM R4 (zM R4 ?_))));obtain ⟨a23, hia23, ea23, h⟩ := el_some h;refine TO.fact (rdl_at h_a mem0 hia23 ea23) (fun hp=>?_);obtain ⟨pa23, hpa23, hva23⟩ := hp;refine zV R3 (hva23 ⟨rfl, rfl⟩ rfl rfl) (zV R3 (Val.load_e hpa23 mem0 ⟨_, rfl, rfl⟩ rfl rfl) (zM R4 (zM R4 ?_)));obtain ⟨a27, hia27, ea27, h⟩ := el_some h;refine TO.fact (rdl_at h_b mem0 hia27 ea27) (fun hp=>?_);obtain ⟨pa27, hpa27, hva27⟩ := hp;refine zV R3 (hva27 ⟨rfl, rfl⟩ rfl rfl) (zV R3 (Val.load_e hpa27 mem0 ⟨_, rfl, rfl⟩ rfl rfl) ?_);obtain ⟨c29, hc29⟩ := zY (a23 = a27);refine zV R3 (Val.eql hc29 rfl rfl) (zA R4 (zN (zT rfl (zM R4 ?_))));obtain ⟨hk20, h⟩ := chk_some h;refine zV R3 (Val.add rfl rfl hk20) (zA R4 (zN ?_));subst hc29;cases h;exact ⟨rfl, (), (sb .refl)⟩
 ·rintro same _ h;refine zU rfl (zM R4 (zA R4 (zN (zR ?_))));cases h;exact ⟨rfl, _, rfl, ⟨(), rfl, .refl⟩⟩
set_option maxRecDepth 10000 in
theorem tf_r9_key {k : Nat} (hk : 0 ≤ k) {C : List Thing} {m_Class : Int} {m_Number : Int} {m_Suffix : Str} {r : (List Int)} (h : P_r9_key m_Class m_Number m_Suffix = some r) :
  TF (EL k) 131 [.agg [iv (m_Class), iv (m_Number), sv m_Suffix]] C (RepF (fun (w : AV) => w) (fun (w : AV) => ownL false w encI r :: C)) := by
 unfold P_r9_key at h;refine TF.enter (fn := Go.Proofs.Tryz.f131) rfl rfl rfl rfl rfl (zU rfl (zQ 3 [_,_,_] R7 (fun b1=>zA R4 (zN (zU rfl (zF 0 R6 (zL 0 R3 R6 (zF 1 R6 (zL 0 R3 R6 (zF 2 R6 (zL 0 R3 R6 (zV R3 (Val.len_str rfl rfl) (TO.eff rfl rfl rfl (Eff.new (New.buildSlice (en := encI) (l := [m_Class, m_Number, (m_Suffix.length : Int)]) (vs := [(_, _), (_, _), (_, _)]) (ws := [(_, [_]), (_, [_]), (_, [_])]) ⟨rfl, rfl⟩ rfl rfl rfl rfl (CellsL.cons rfl (CellsL.cons rfl (CellsL.cons rfl CellsL.nil))) rfl rfl)) ?_)))))))))))));rintro _ _ ⟨v12, rfl, rfl⟩;refine TO.less (Less.rowOwn (en := encI) (l := [m_Class, m_Number, (m_Suffix.length : Int)]) (p := 0) rfl) (zG (_::_::C) rfl (zA R4 (zN ?_)))
 show T _ _ _ _ _ _;apply T.joinA (r := r) (W := AV) (fun j w => ⟨[], [(3, w)], ownL false w encI j :: .row b1 3 [iv (m_Class), iv (m_Number), sv m_Suffix] :: C⟩) h
 ·intro j h;refine zU rfl (zA R4 (zN (zB ?_)))
  show T _ _ _ _ _ _;apply T.iter (r := j) (W := AV) (fun j w => ⟨[], [(1, .ptr b1 0 3), (3, w), (4, iv (j.1))], ownL false w encI j.2 :: .row b1 3 [iv (m_Class), iv (m_Number), sv m_Suffix] :: C⟩) (w0 := (.slice v12 0 (List.flatMap encI.f [m_Class, m_Number, (m_Suffix.length : Int)]).length true (List.length [m_Class, m_Number, (m_Suffix.length : Int)]) (List.length [m_Class, m_Number, (m_Suffix.length : Int)]))) h
  ·exact (sb .refl)
  rintro ⟨i, out⟩ v2 a h;unfold P_r9_key_L1 at h;dsimp only at h;dsimp only;refine zS (zU rfl (zM R4 (zF 2 R6 (zL 1 R3 R6 (zV R3 (Val.len_str rfl rfl) ?_)))));obtain ⟨c17, hc17⟩ := zY (i < (m_Suffix.length : Int));refine zV R3 (Val.lss hc17 rfl rfl) (zN ?_);obtain ⟨rfl, hc17, h⟩ | ⟨rfl, hc17, h⟩ := zI hc17 h
  ·refine zC rfl (zK (zS (zB (zT rfl (zM R4 (zF 2 R6 (zL 1 R3 R6 (zM R4 ?_))))))));obtain ⟨hk24, h⟩ := chk_some h;refine zV R3 (Val.index_str rfl rfl rfl hk24) ?_;obtain ⟨hk25, h⟩ := chk_some h;refine zV R3 (Val.conv (cv_ty5_3 hk25) rfl) (TO.build1 (en := encI) (a := (byteAt m_Suffix i)) rfl rfl rfl ⟨rfl, rfl⟩ ⟨_, rfl, rfl⟩ (by decide) (by decide) rfl rfl (fun v26=>?_));obtain ⟨hk27, h⟩ := chk_some h;refine TO.eff rfl rfl rfl (Eff.append_own (b := 8) (en := encI) (l := out) (l2 := [(byteAt m_Suffix i)]) (p := 1) (q := 0) ⟨rfl, rfl, rfl, ⟨_, rfl, rfl⟩, by decide, by decide⟩ rfl rfl rfl rfl rfl rfl (flat_ones _) (by decide) hk27) ?_;rintro v27 _ rfl;refine zG (_::_::_::C) rfl (zA R4 (zN (zT rfl (zM R4 ?_))));obtain ⟨hk19, h⟩ := chk_some h;refine zV R3 (Val.add rfl rfl hk19) (zA R4 (zN ?_));cases h;exact ⟨rfl, v27, (sb (pk [1,1,98] rfl))⟩
  refine zD rfl (zE ?_);cases h;exact ⟨ex_ne, ⟨rfl, v2, (sb .refl)⟩⟩
 ·rintro out v2 h;refine zU rfl (zM R4 (zA R4 (zN (zR ?_))));cases h;exact ⟨rfl, _, rfl, ⟨v2, rfl, (pk [0,98] rfl)⟩⟩
set_option maxRecDepth 10000 in
theorem tf_r9_First {k : Nat} (hk : 0 ≤ k) {C : List Thing} {a_Class : Int} {a_Number : Int} {a_Suffix : Str} {b_Class : Int} {b_Number : Int} {b_Suffix : Str} {r : Bool} (h : P_r9_First a_Class a_Number a_Suffix b_Class b_Number b_Suffix = some r) :
  TF (EL k) 91 [.agg [iv (a_Class), iv (a_Number), sv a_Suffix], .agg [iv (b_Class), iv (b_Number), sv b_Suffix]] C (RepF (fun (w : Unit) => bv r) (fun (w : Unit) => C)) := by
 unfold P_r9_First at h;refine TF.enter (fn := Go.Proofs.Tryz.f91) rfl rfl rfl rfl rfl (zU rfl (zQ 3 [_,_,_] R7 (fun b2=>zQ 3 [_,_,_] R7 (fun b3=>zA R4 (zN (zS (T.drawE (l1 := [0, 2]) (l2 := [1, 3, 4, 5]) (by kernel_rfl) (by kernel_rfl) (yR R4 (vW 1 [_,_,_] R5 R4) (yR R4 (vW 0 [_,_,_] R5 R4) (TD1.over (fun v => sameC_refl v) (all_cons (⟨_, rfl, (vW 0 [_,_,_] R5 R4)⟩) (all_cons (⟨_, rfl, (vW 1 [_,_,_] R5 R4)⟩) all_nil)) ?_))))))))));obtain ⟨y6, hr6, h⟩ := andx_some h;refine TD2.heavy (fun v => sameC_refl v) rfl (by decide) rfl rfl (OpS.callV rfl rfl rfl rfl (orcN rfl) (RepF.conv (tf_r9_key aD hr6))) ?_;rintro w6 hs_ ⟨w6, rfl, he_⟩;subst hs_;refine ⟨(all_cons (.inr ⟨_, rfl, (vW 1 [_,_,_] R5 R4)⟩) (all_cons (.inl (by kernel_rfl)) all_nil)), all_nil, ?_⟩;refine yG (_::_::_::C) rfl ?_;obtain ⟨y8, hr8, h⟩ := andx_some h;refine TD2.heavy (fun v => sameC_refl v) rfl (by decide) rfl rfl (OpS.callV rfl rfl rfl rfl (orcN rfl) (RepF.conv (tf_r9_key aD hr8))) ?_;rintro w8 hs_ ⟨w8, rfl, he_⟩;subst hs_;refine ⟨(all_cons (.inl (by kernel_rfl)) (all_cons (.inl (by kernel_rfl)) all_nil)), all_nil, ?_⟩;refine yG (_::_::_::_::C) rfl ?_;obtain ⟨y9, hr9, h⟩ := andx_some h;refine TD2.heavy (fun v => sameC_refl v) rfl (by decide) rfl rfl (OpS.callV rfl rfl rfl rfl (orcN rfl) (RepF.conv (tf_w1_Before aD (Rdl.mono (Rdl.own (C := ownL false w8 encI y8 :: ownL false w6 encI y6 :: .row b3 3 [iv (b_Class), iv (b_Number), sv b_Suffix] :: .row b2 3 [iv (a_Class), iv (a_Number), sv a_Suffix] :: C) (p := 1) rfl) mem0) (Rdl.mono (Rdl.own (C := ownL false w8 encI y8 :: ownL false w6 encI y6 :: .row b3 3 [iv (b_Class), iv (b_Number), sv b_Suffix] :: .row b2 3 [iv (a_Class), iv (a_Number), sv a_Suffix] :: C) (p := 0) rfl) mem0) hr9))) ?_;rintro _ hs_ ⟨_, rfl, he_⟩;subst hs_;refine ⟨(all_cons (.inl (by kernel_rfl)) (all_cons (.inl (by kernel_rfl)) all_nil)), all_nil, ?_⟩;refine yG (_::_::_::_::C) rfl (yM R4 (Val.assign rfl) (TD2.nil (zR ?_)));cases h;exact ⟨rfl, _, rfl, ⟨(), rfl, (pk [98,98,98,98] rfl)⟩⟩
set_option maxRecDepth 10000 in
theorem tf_r9_Ordered {k : Nat} (hk : 0 ≤ k) {C : List Thing} {v_books : AV} {books : List qA} (h_books : Rdl C qP v_books books) {r : Bool} (h : P_r9_Ordered books = some r) :
  TF (EL k) 56 [v_books] C (RepF (fun (w : Unit) => bv r) (fun (w : Unit) => C)) := by
 unfold P_r9_Ordered at h;refine TF.enter (fn := Go.Proofs.Tryz.f56) rfl rfl rfl rfl rfl (zU rfl (zA R4 (zN ?_)))
 show T _ _ _ _ _ _;apply T.join (r := r) (W := Unit) (fun j w => ⟨[], [], C⟩) h
 ·intro j h;refine zU rfl (zA R4 (zN (zB ?_)))
  show T _ _ _ _ _ _;apply T.iter (r := j) (W := Unit) (fun j w => ⟨[], [(0, v_books), (3, iv (j))], C⟩) (w0 := ()) h
  ·exact (sb .refl)
  rintro i _ a h;unfold P_r9_Ordered_L1 at h;refine zS (zU rfl (zM R4 (zM R4 (zV R3 (Val.len_l h_books mem0 rfl rfl) ?_))));obtain ⟨c7, hc7⟩ := zY (i < (books.length : Int));refine zV R3 (Val.lss hc7 rfl rfl) (zN ?_);obtain ⟨rfl, hc7, h⟩ | ⟨rfl, hc7, h⟩ := zI hc7 h
  ·refine zC rfl (zK (zS (zB (zS (T.drawE (l1 := [0, 1, 2, 3, 4, 5, 6, 7, 8, 9, 10]) (l2 := [11, 12]) (by kernel_rfl) (by kernel_rfl) (yL R4 (Val.move rfl) (yL R4 (Val.move rfl) ?_)))))));obtain ⟨hk12, h⟩ := chk_some h;refine yL R4 (Val.sub rfl rfl hk12) ?_;obtain ⟨a13, hia13, ea13, h⟩ := el_some h;refine TD1.fact (rdl_at h_books mem0 hia13 ea13) (fun hp=>?_);obtain ⟨pa13, hpa13, hva13⟩ := hp;refine yL R4 (hva13 ⟨rfl, rfl⟩ rfl rfl) (yL R4 (Val.faddr_e (fo := 0) hpa13 rfl rfl rfl) (yR R4 (Val.load_es (c := [_, _, _]) (PtE.add hpa13 (by decide)) mem0 ⟨⟨_, rfl, rfl⟩, rfl, by decide⟩ rfl rfl rfl) (yL R4 (Val.move rfl) (yL R4 (Val.move rfl) ?_))));obtain ⟨a18, hia18, ea18, h⟩ := el_some h;refine TD1.fact (rdl_at h_books mem0 hia18 ea18) (fun hp=>?_);obtain ⟨pa18, hpa18, hva18⟩ := hp;refine yL R4 (hva18 ⟨rfl, rfl⟩ rfl rfl) (yL R4 (Val.faddr_e (fo := 0) hpa18 rfl rfl rfl) (yR R4 (Val.load_es (c := [_, _, _]) (PtE.add hpa18 (by decide)) mem0 ⟨⟨_, rfl, rfl⟩, rfl, by decide⟩ rfl rfl rfl) (TD1.over (fun v => sameC_refl v) (all_cons (⟨_, rfl, (Val.load_es (c := [_, _, _]) (PtE.add hpa18 (by decide)) mem0 ⟨⟨_, rfl, rfl⟩, rfl, by decide⟩ rfl rfl rfl)⟩) (all_cons (⟨_, rfl, (Val.load_es (c := [_, _, _]) (PtE.add hpa13 (by decide)) mem0 ⟨⟨_, rfl, rfl⟩, rfl, by decide⟩ rfl rfl rfl)⟩) all_nil)) ?_)));obtain ⟨y21, hr21, h⟩ := andx_some h;refine TD2.heavy (fun v => sameC_refl v) rfl (by decide) rfl rfl (OpS.callV rfl rfl rfl rfl (orcN rfl) (RepF.conv (tf_r9_First aD hr21))) ?_;rintro _ hs_ ⟨_, rfl, he_⟩;subst hs_;refine ⟨(all_cons (.inl (by kernel_rfl)) (all_cons (.inl (by kernel_rfl)) all_nil)), all_nil, ?_⟩;refine yG (C) rfl (yM R4 (Val.not rfl) (TD2.nil ?_));obtain ⟨rfl, h⟩ | ⟨rfl, h⟩ := zZ h
   ·refine zD rfl (zK (zT rfl (zM R4 ?_)));obtain ⟨hk9, h⟩ := chk_some h;refine zV R3 (Val.add rfl rfl hk9) (zA R4 (zN ?_));cases h;exact ⟨rfl, (), (sb .refl)⟩
   refine zC rfl (zU rfl (zA R4 (zN (zR ?_))));cases h;exact ⟨ret_ne, ⟨ret_ne, ⟨rfl, _, rfl, ⟨(), rfl, .refl⟩⟩⟩⟩
  refine zD rfl (zE ?_);cases h;exact ⟨ex_ne, ⟨rfl, (), (sb .refl)⟩⟩
 ·rintro _ _ h;refine zU rfl (zA R4 (zN (zR ?_)));cases h;exact ⟨rfl, _, rfl, ⟨(), rfl, .refl⟩⟩
set_option maxRecDepth 10000 in
theorem tf_r9_Spare {k : Nat} (hk : 1 ≤ k) {C : List Thing} {qF : AV} {qG : List Str} {qD : AV} {qC : List qH} {qE : AV} {qB : List qA} (qAa : RdT encStr qF qG) (qAb : RdT qW qD qC) (qZ : RdT qP qE qB) {r : (List Int) × Int} (h : P_r9_Spare qG qC qB = some r) :
  TF (EL k) 29 [.agg [qF, qD, qE]] C (RepF (fun (w : AV) => .tuple [w, iv r.2]) (fun (w : AV) => ownL true w encI r.1 :: C)) := by
 unfold P_r9_Spare at h
 have qV : Rdl C encStr qF qG := RdT.rdl qAa
 have qU : Rdl C qW qD qC := RdT.rdl qAb
 have qT : Rdl C qP qE qB := RdT.rdl qZ;refine TF.enter (fn := Go.Proofs.Tryz.f29) rfl rfl rfl rfl rfl (zU rfl (zQ 3 [_,_,_] R7 (fun b1=>zA R4 (zA R4 (zN (zU rfl (zV R3 (vW 0 [_,_,_] R5 R4) ?_)))))));obtain ⟨⟨y11, y11_2, y11_3⟩, hr11, h⟩ := andx_some h;dsimp only at h;obtain ⟨g, hgg, hrg⟩ := Rdl.reif (hs := .row b1 3 [qF, qD, qE] :: C) qV M1 (ReifL.flat encStr_tr);obtain ⟨g_2, hgg_2, hrg_2⟩ := Rdl.reif (hs := .row b1 3 [qF, qD, qE] :: C) qU M1 (ReifL.flat qAe);obtain ⟨g_3, hgg_3, hrg_3⟩ := Rdl.reif (hs := .row b1 3 [qF, qD, qE] :: C) qT M1 (ReifL.flat qAd);refine TO.call rfl rfl rfl rfl rfl (orcL rfl aD) (.cons (.agg (.cons (hrg _) (.cons (hrg_2 _) (.cons (hrg_3 _) .nil)))) .nil) (sem_of (w_r9_Check g g_2 g_3 _ (by try rw [hgg]; try rw [hgg_2]; try rw [hgg_3]; exact hr11))) (zM R4 (zX R5 (zX R5 (zX R5 (zA R4 (zA R4 (zA R4 (zN (zS (zU rfl (zM R4 ?_)))))))))));obtain ⟨c16, hc16⟩ := zY (¬ y11_3 = 0);refine zV R3 (Val.neq hc16 rfl rfl) (zN ?_);obtain ⟨rfl, hc16, h⟩ | ⟨rfl, hc16, h⟩ := zI hc16 h
 ·refine zC rfl (zU rfl (zM R4 (zA R4 (zA R4 (zN (T.nilown (u := encI.u) (zR ?_)))))));cases h;exact ⟨rfl, _, rfl, ⟨nilS, rfl, (pk [0,98] rfl)⟩⟩
 refine zD rfl (zK (zU rfl (zA R4 (zN ?_))))
 show T _ _ _ _ _ _;apply T.joinA (r := r) (W := AV) (fun j w => ⟨[], [(7, w)], ownL true w encI j :: .row b1 3 [qF, qD, qE] :: C⟩) h
 ·intro j h;refine zU rfl (zA R4 (zN (zB (T.nilown (u := encI.u) ?_))))
  show T _ _ _ _ _ _;apply T.iter (r := j) (W := AV) (fun j w => ⟨[], [(1, .ptr b1 0 3), (7, w), (8, iv (j.1))], ownL true w encI j.2 :: .row b1 3 [qF, qD, qE] :: C⟩) (w0 := nilS) h
  ·exact (sb .refl)
  rintro ⟨i, out⟩ v3 a h;unfold P_r9_Spare_L1 at h;dsimp only at h;dsimp only;refine zS (zU rfl (zM R4 (zF 1 R6 (zL 1 R3 R6 (zV R3 (Val.len_l qU M2 rfl rfl) ?_)))));obtain ⟨c22, hc22⟩ := zY (i < (qC.length : Int));refine zV R3 (Val.lss hc22 rfl rfl) (zN ?_);obtain ⟨rfl, hc22, h⟩ | ⟨rfl, hc22, h⟩ := zI hc22 h
  ·refine zC rfl (zK (zS (zB (T.drawE (l1 := [0, 1, 2, 3, 4, 5, 6, 7, 8, 9, 10, 11, 13]) (l2 := [12, 14, 15, 16, 17, 18]) (by kernel_rfl) (by kernel_rfl) (yL R4 (Val.move rfl) (yL R4 (Val.faddr_ptr (fo := 1) rfl rfl rfl) (yR R4 (vR (p := 1) R6) (yL R4 (Val.move rfl) ?_))))))));obtain ⟨a29, hia29, ea29, h⟩ := el_some h;refine TD1.fact (rdl_at qU M2 hia29 ea29) (fun hp=>?_);obtain ⟨pa29, hpa29, hva29⟩ := hp;refine yL R4 (hva29 ⟨rfl, rfl⟩ rfl rfl) (yL R4 (Val.faddr_e (fo := 2) hpa29 rfl rfl rfl) (yR R4 (Val.load_e (PtE.add hpa29 (by decide)) M2 ⟨_, rfl, rfl⟩ rfl rfl) (yR R4 (vW 1 [_,_,_] R5 R4) (yL R4 (Val.faddr_ptr (fo := 2) rfl rfl rfl) (yR R4 (vR (p := 1) R6) (yL R4 (Val.faddr_ptr (fo := 2) rfl rfl rfl) (yR R4 (vR (p := 1) R6) (yL R4 (Val.move rfl) (TD1.over (fun v => sameC_refl v) (all_cons (⟨_, rfl, (vR (p := 1) R6)⟩) (all_cons (⟨_, rfl, (vR (p := 1) R6)⟩) (all_cons (⟨_, rfl, (vW 1 [_,_,_] R5 R4)⟩) (all_cons (⟨_, rfl, (Val.load_e (PtE.add hpa29 (by decide)) M2 ⟨_, rfl, rfl⟩ rfl rfl)⟩) (all_cons (⟨_, rfl, (vR (p := 1) R6)⟩) all_nil))))) ?_)))))))));obtain ⟨y37, hr37, h⟩ := andx_some h;refine TD2.heavy (fun v => sameC_refl v) rfl (by decide) rfl rfl (OpS.callV rfl rfl rfl rfl (orcN rfl) (RepF.conv (tf_r9_Own aD (Rdl.mono qT M2) hr37))) ?_;rintro w37 hs_ ⟨w37, rfl, he_⟩;subst hs_;refine ⟨(all_cons (.inl (by kernel_rfl)) (all_cons (.inr ⟨_, rfl, (vR (p := 2) R6)⟩) (all_cons (.inr ⟨_, rfl, (vW 2 [_,_,_] R5 R4)⟩) (all_cons (.inr ⟨_, rfl, (Val.load_e (PtE.add hpa29 (by decide)) M3 ⟨_, rfl, rfl⟩ rfl rfl)⟩) (all_cons (.inr ⟨_, rfl, (vR (p := 2) R6)⟩) all_nil))))), all_nil, ?_⟩;refine yG (_::_::_::C) rfl ?_;obtain ⟨y39, hr39, h⟩ := andx_some h;refine TD2.heavy (fun v => sameC_refl v) rfl (by decide) rfl rfl (OpS.callV rfl rfl rfl rfl (orcN rfl) (RepF.conv (tf_r9_Filled aD (Rdl.mono qV M3) (Rdl.mono qU M3) (Rdl.mono qT M3) (Rdl.mono qT M3) (Rdl.mono (Rdl.own (C := ownL true w37 encI y37 :: ownL true v3 encI out :: .row b1 3 [qF, qD, qE] :: C) (p := 0) rfl) mem0) hr39))) ?_;rintro _ hs_ ⟨_, rfl, he_⟩;subst hs_;refine ⟨(all_cons (.inl (by kernel_rfl)) (all_cons (.inl (by kernel_rfl)) (all_cons (.inl (by kernel_rfl)) (all_cons (.inr ⟨_, rfl, (Val.load_e (PtE.add hpa29 (by decide)) M3 ⟨_, rfl, rfl⟩ rfl rfl)⟩) (all_cons (.inr ⟨_, rfl, (vR (p := 2) R6)⟩) all_nil))))), all_nil, ?_⟩;refine yG (_::_::_::C) rfl ?_;obtain ⟨hk40, h⟩ := chk_some h;refine yM R4 (Val.sub rfl rfl hk40) (TD2.heavy (fun v => sameC_refl v) rfl (by decide) rfl rfl (OpS.eff (Eff.new (New.buildSlice (en := encI) (l := [(a29.wide - y39)]) (vs := [(_, _)]) (ws := [(_, [_])]) ⟨rfl, rfl⟩ rfl rfl rfl rfl (CellsL.cons rfl CellsL.nil) rfl rfl))) ?_);rintro _ _ ⟨v41, rfl, rfl⟩;refine ⟨(all_cons (.inl (by kernel_rfl)) (all_cons (.inl (by kernel_rfl)) (all_cons (.inl (by kernel_rfl)) (all_cons (.inl (by kernel_rfl)) (all_cons (.inl (by kernel_rfl)) all_nil))))), all_nil, ?_⟩;refine TD2.less (Less.rowOwn (en := encI) (l := [(a29.wide - y39)]) (p := 0) rfl) (yG (_::_::_::_::C) rfl ?_)
   obtain ⟨hk42, h⟩ := chk_some h;refine TD2.heavy (fun v => sameC_refl v) rfl (by decide) rfl rfl (OpS.eff (Eff.append_own (b := 8) (en := encI) (l := out) (l2 := [(a29.wide - y39)]) (p := 2) (q := 0) ⟨rfl, rfl, rfl, ⟨_, rfl, rfl⟩, by decide, by decide⟩ rfl rfl rfl rfl rfl rfl (flat_ones _) (by decide) hk42)) ?_;rintro v42 _ rfl;refine ⟨(all_cons (.inl (by kernel_rfl)) (all_cons (.inl (by kernel_rfl)) (all_cons (.inl (by kernel_rfl)) (all_cons (.inl (by kernel_rfl)) (all_cons (.inl (by kernel_rfl)) all_nil))))), all_nil, ?_⟩;refine yG (_::_::_::_::C) rfl (yM R4 (Val.assign rfl) (TD2.nil (zT rfl (zM R4 ?_))));obtain ⟨hk24, h⟩ := chk_some h;refine zV R3 (Val.add rfl rfl hk24) (zA R4 (zN ?_));cases h;exact ⟨rfl, v42, (sb (pk [2,2,98,98] rfl))⟩
  refine zD rfl (zE ?_);cases h;exact ⟨ex_ne, ⟨rfl, v3, (sb .refl)⟩⟩
 ·rintro out v3 h;refine zU rfl (zM R4 (zA R4 (zA R4 (zN (zR ?_)))));cases h;exact ⟨rfl, _, rfl, ⟨v3, rfl, (pk [0,98] rfl)⟩⟩
theorem w_r9_Spare (qG : GS encStr) (qC : GS qW) (qB : GS qP) (r : (List Int) × Int) (h : P_r9_Spare qG.l qC.l qB.l = some r) : Comes (EL 1) 29 [.agg [qG.v, qC.v, qB.v]] (.tuple [(GSo true encI r.1).v, iv r.2]) :=
 TF.run (tf_r9_Spare (Nat.le_refl _) (RdT.gs qG) (RdT.gs qC) (RdT.gs qB) h) fun w => (.tuple (.cons (.ownL (en := encI) (p := 0) rfl (.lits encI_lits)) (.cons .lit .nil)))
set_option maxRecDepth 10000 in
theorem tf_r9_Less {k : Nat} (hk : 0 ≤ k) {C : List Thing} {v_books : AV} {books : List qA} {v_l : AV} {l : List Int} (h_books : Rdl C qP v_books books) (h_l : Rdl C encI v_l l) {r : (List qA)} (h : P_r9_Less books l = some r) :
  TF (EL k) 46 [v_books, v_l] C (RepF (fun (w : AV) => w) (fun (w : AV) => ownL true w qP r :: C)) := by
 unfold P_r9_Less at h;refine TF.enter (fn := Go.Proofs.Tryz.f46) rfl rfl rfl rfl rfl (zU rfl (zA R4 (zN (zU rfl (zA R4 (zN ?_))))))
 show T _ _ _ _ _ _;apply T.joinA (r := r) (W := AV) (fun j w => ⟨[], [(5, w)], ownL true w qP j :: C⟩) h
 ·intro j h;refine zU rfl (zA R4 (zN (zB (T.nilown (u := qP.u) ?_))))
  show T _ _ _ _ _ _;apply T.iter (r := j) (W := AV) (fun j w => ⟨[], [(0, v_books), (1, v_l), (5, w), (6, iv (j.1))], ownL true w qP j.2 :: C⟩) (w0 := nilS) h
  ·exact (sb .refl)
  rintro ⟨i, out⟩ v1 a h;unfold P_r9_Less_L1 at h;dsimp only at h;dsimp only;refine zS (zU rfl (zM R4 (zM R4 (zV R3 (Val.len_l h_books M1 rfl rfl) ?_))));obtain ⟨c10, hc10⟩ := zY (i < (books.length : Int));refine zV R3 (Val.lss hc10 rfl rfl) (zN ?_);obtain ⟨rfl, hc10, h⟩ | ⟨rfl, hc10, h⟩ := zI hc10 h
  ·refine zC rfl (zK ?_)
   show T _ _ _ _ _ _;apply T.joinA (r := a) (W := AV) (fun j w => ⟨[], [(0, v_books), (1, v_l), (5, w), (6, iv (i))], ownL true w qP j :: C⟩) h
   ·intro j h;refine zB (zU rfl (zM R4 (zM R4 ?_)));obtain ⟨y15, hr15, h⟩ := andx_some h;refine TO.callT (first := []) (cap := []) (vs := [v_l, iv (i)]) rfl rfl rfl rfl rfl rfl (orcN rfl) (tf_w1_Has aD (Rdl.mono h_l M1) hr15) ?_;rintro _;refine zG (_::C) rfl (zV R3 (Val.not rfl) (zN ?_));obtain ⟨rfl, h⟩ | ⟨rfl, h⟩ := zZ h
    ·refine zD rfl (zK ?_);cases h;exact ⟨rfl, v1, (sb .refl)⟩
    refine zC rfl (zT rfl (zM R4 (zM R4 (zM R4 ?_))));obtain ⟨a20, hia20, ea20, h⟩ := el_some h;refine TO.fact (rdl_at h_books M1 hia20 ea20) (fun hp=>?_);obtain ⟨pa20, hpa20, hva20⟩ := hp;refine zV R3 (hva20 ⟨rfl, rfl⟩ rfl rfl) (zV R3 (Val.load_es (c := [_, _, _, _, _, _, _]) hpa20 M1 ⟨⟨_, rfl, rfl⟩, rfl, by decide⟩ rfl rfl rfl) (TO.build1 (en := qP) (a := a20) rfl rfl rfl ⟨rfl, rfl⟩ ⟨_, rfl, rfl⟩ (by decide) (by decide) rfl rfl (fun v22=>?_)));obtain ⟨hk23, h⟩ := chk_some h;refine TO.eff rfl rfl rfl (Eff.append_own (b := 64) (en := qP) (l := out) (l2 := [a20]) (p := 1) (q := 0) ⟨rfl, rfl, rfl, ⟨_, rfl, rfl⟩, by decide, by decide⟩ rfl rfl rfl rfl rfl rfl (en_ones qAf _) (by decide) hk23) ?_;rintro v23 _ rfl;refine zG (_::_::C) rfl (zA R4 (zN ?_));cases h;exact ⟨rfl, v23, (sb (pk [1,98] rfl))⟩
   ·rintro out_2 v1_2 h;refine zT rfl (zM R4 ?_);obtain ⟨hk12, h⟩ := chk_some h;refine zV R3 (Val.add rfl rfl hk12) (zA R4 (zN ?_));cases h;exact ⟨rfl, v1_2, (sb .refl)⟩
  refine zD rfl (zE ?_);cases h;exact ⟨ex_ne, ⟨rfl, v1, (sb .refl)⟩⟩
 ·rintro out v1 h;refine zU rfl (zM R4 (zA R4 (zN (zR ?_))));cases h;exact ⟨rfl, _, rfl, ⟨v1, rfl, .refl⟩⟩
set_option maxRecDepth 10000 in
theorem tf_r9_Further {k : Nat} (hk : 1 ≤ k) {C : List Thing} {qF : AV} {qG : List Str} {qD : AV} {qC : List qH} {qE : AV} {qB : List qA} {qK : Int} {qL : Int} {qM : Str} {qJ : Int} {qI : Int} {qN : Int} {qO : Int} (qAa : RdT encStr qF qG) (qAb : RdT qW qD qC) (qZ : RdT qP qE qB) {r : Int} (h : P_r9_Further qG qC qB qK qL qM qJ qI qN qO = some r) :
  TF (EL k) 49 [.agg [qF, qD, qE], .agg [iv (qK), iv (qL), sv qM, iv (qJ), iv (qI), iv (qN), iv (qO)]] C (RepF (fun (w : Unit) => iv r) (fun (w : Unit) => C)) := by
 unfold P_r9_Further at h
 have qV : Rdl C encStr qF qG := RdT.rdl qAa
 have qU : Rdl C qW qD qC := RdT.rdl qAb
 have qT : Rdl C qP qE qB := RdT.rdl qZ;refine TF.enter (fn := Go.Proofs.Tryz.f49) rfl rfl rfl rfl rfl (zU rfl (zQ 3 [_,_,_] R7 (fun b2=>zQ 7 [_,_,_,_,_,_,_] R7 (fun b3=>zA R4 (zN (zU rfl (zV R3 (vW 1 [_,_,_] R5 R4) ?_)))))));obtain ⟨⟨y10, y10_2, y10_3⟩, hr10, h⟩ := andx_some h;dsimp only at h;obtain ⟨g, hgg, hrg⟩ := Rdl.reif (hs := .row b3 7 [iv (qK), iv (qL), sv qM, iv (qJ), iv (qI), iv (qN), iv (qO)] :: .row b2 3 [qF, qD, qE] :: C) qV M2 (ReifL.flat encStr_tr);obtain ⟨g_2, hgg_2, hrg_2⟩ := Rdl.reif (hs := .row b3 7 [iv (qK), iv (qL), sv qM, iv (qJ), iv (qI), iv (qN), iv (qO)] :: .row b2 3 [qF, qD, qE] :: C) qU M2 (ReifL.flat qAe);obtain ⟨g_3, hgg_3, hrg_3⟩ := Rdl.reif (hs := .row b3 7 [iv (qK), iv (qL), sv qM, iv (qJ), iv (qI), iv (qN), iv (qO)] :: .row b2 3 [qF, qD, qE] :: C) qT M2 (ReifL.flat qAd);refine TO.call rfl rfl rfl rfl rfl (orcL rfl aD) (.cons (.agg (.cons (hrg _) (.cons (hrg_2 _) (.cons (hrg_3 _) .nil)))) .nil) (sem_of (w_r9_Check g g_2 g_3 _ (by try rw [hgg]; try rw [hgg_2]; try rw [hgg_3]; exact hr10))) (zM R4 (zX R5 (zX R5 (zX R5 (zA R4 (zA R4 (zA R4 (zN ?_))))))))
 show T _ _ _ _ _ _;apply T.joinA (r := r) (W := Unit) (fun j w => ⟨[], [(2, .ptr b2 0 3), (7, iv (j))], .row b3 7 [iv (qK), iv (qL), sv qM, iv (qJ), iv (qI), iv (qN), iv (qO)] :: .row b2 3 [qF, qD, qE] :: C⟩) h
 ·intro j h;refine zU rfl (zM R4 ?_);obtain ⟨c15, hc15⟩ := zY (y10_3 = 0);refine zV R3 (Val.eql hc15 rfl rfl) (zN ?_);obtain ⟨rfl, hc15, h⟩ | ⟨rfl, hc15, h⟩ := zI hc15 h
  ·refine zC rfl (zT rfl (zV R3 (vW 1 [_,_,_] R5 R4) (zV R3 (vW 0 [_,_,_,_,_,_,_] R5 R4) (zF 2 R6 (zL 1 R3 R6 ?_)))));obtain ⟨y20, hr20, h⟩ := andx_some h;refine TO.callT (first := []) (cap := []) (vs := [.agg [qF, qD, qE], .agg [iv (qK), iv (qL), sv qM, iv (qJ), iv (qI), iv (qN), iv (qO)], qE]) rfl rfl rfl rfl rfl rfl (orcN rfl) (tf_r9_Book aD (Rdl.mono qV M2) (Rdl.mono qU M2) (Rdl.mono qT M2) (Rdl.mono qT M2) hr20) ?_;rintro _;refine zG (_::_::C) rfl (zA R4 (zN ?_));cases h;exact ⟨rfl, (), (sb .refl)⟩
  refine zD rfl (zK ?_);cases h;exact ⟨rfl, (), (sb .refl)⟩
 ·rintro e _ h
  show T _ _ _ _ _ _;apply T.joinA (r := r) (W := Unit) (fun j w => ⟨[], [(7, iv (j))], .row b3 7 [iv (qK), iv (qL), sv qM, iv (qJ), iv (qI), iv (qN), iv (qO)] :: .row b2 3 [qF, qD, qE] :: C⟩) h
  ·intro j h
   show T _ _ _ _ _ _;apply T.joinA (r := j) (W := Unit) (fun j w => ⟨[], [(7, iv (e)), (28, bv j)], .row b3 7 [iv (qK), iv (qL), sv qM, iv (qJ), iv (qI), iv (qN), iv (qO)] :: .row b2 3 [qF, qD, qE] :: C⟩) h
   ·intro j h;refine zT rfl (zM R4 ?_);obtain ⟨c22, hc22⟩ := zY (e = 0);refine zV R3 (Val.eql hc22 rfl rfl) (zM R4 ?_);obtain ⟨rfl, hc22, h⟩ | ⟨rfl, hc22, h⟩ := zI hc22 h
    ·refine zF 2 R6 (zL 1 R3 R6 ?_);obtain ⟨y26, hr26, h⟩ := andx_some h;refine TO.callT (first := []) (cap := []) (vs := [qE]) rfl rfl rfl rfl rfl rfl (orcN rfl) (tf_r9_Ordered aD (Rdl.mono qT M2) hr26) ?_;rintro _;refine zG (_::_::C) rfl (zV R3 (Val.not rfl) (zP R6 (zN ?_)));cases h;exact ⟨rfl, (), (sb .refl)⟩
    refine zO R3 (zO R3 (zO R3 (zO R3 (zP R6 (zN ?_)))));cases h;exact ⟨rfl, (), (sb .refl)⟩
   ·rintro x28 _ h;obtain ⟨rfl, h⟩ | ⟨rfl, h⟩ := zZ h
    ·refine zC rfl (zT rfl (zA R4 (zN ?_)));cases h;exact ⟨rfl, (), (sb .refl)⟩
    refine zD rfl (zK ?_);cases h;exact ⟨rfl, (), (sb .refl)⟩
  ·rintro e_2 _ h;refine zU rfl (zM R4 (zA R4 (zN (zR ?_))));cases h;exact ⟨rfl, _, rfl, ⟨(), rfl, (pk [98,98] rfl)⟩⟩
theorem w_r9_Further (qG : GS encStr) (qC : GS qW) (qB : GS qP) (qK : Int) (qL : Int) (qM : Str) (qJ : Int) (qI : Int) (qN : Int) (qO : Int) (r : Int) (h : P_r9_Further qG.l qC.l qB.l qK qL qM qJ qI qN qO = some r) : Comes (EL 1) 49 [.agg [qG.v, qC.v, qB.v], .agg [iv (qK), iv (qL), sv qM, iv (qJ), iv (qI), iv (qN), iv (qO)]] (iv r) :=
 TF.run (tf_r9_Further (Nat.le_refl _) (RdT.gs qG) (RdT.gs qC) (RdT.gs qB) h) fun w => .lit
set_option maxRecDepth 10000 in
theorem tf_r9_With {k : Nat} (hk : 0 ≤ k) {C : List Thing} {v_books : AV} {books : List qA} {b : qA} (ht_books : RdT qP v_books books) {r : (List qA) × Int} (h : P_r9_With books b = some r) :
  TF (EL k) 50 [v_books, .agg [iv (b.qR), iv (b.qS), sv b.qQ, iv (b.wide), iv (b.high), iv (b.heavy), iv (b.shelf)]] C (RepF (fun (w : AV) => .tuple [w, iv r.2]) (fun (w : AV) => ownL false w qP r.1 :: C)) := by
 unfold P_r9_With at h
 have h_books : Rdl C qP v_books books := RdT.rdl ht_books;refine TF.enter (fn := Go.Proofs.Tryz.f50) rfl rfl rfl rfl rfl (zU rfl (zQ 7 [_,_,_,_,_,_,_] R7 (fun b3=>zA R4 (zA R4 (zN (zU rfl (zA R4 (zN ?_))))))))
 show T _ _ _ _ _ _;apply T.joinA (r := r) (W := Unit) (fun j w => ⟨[], [(0, v_books), (3, .ptr b3 0 7), (6, iv (j))], .row b3 7 [iv (b.qR), iv (b.qS), sv b.qQ, iv (b.wide), iv (b.high), iv (b.heavy), iv (b.shelf)] :: C⟩) h
 ·intro j h;refine zB ?_
  show T _ _ _ _ _ _;apply T.iter (r := j) (W := Unit) (fun j w => ⟨[], [(0, v_books), (3, .ptr b3 0 7), (6, iv (j))], .row b3 7 [iv (b.qR), iv (b.qS), sv b.qQ, iv (b.wide), iv (b.high), iv (b.heavy), iv (b.shelf)] :: C⟩) (w0 := ()) h
  ·exact (sb .refl)
  rintro at_ _ a h;unfold P_r9_With_L1 at h
  show T _ _ _ _ _ _;apply T.join (r := a) (W := Unit) (fun j w => ⟨[], [(0, v_books), (3, .ptr b3 0 7), (6, iv (at_))], .row b3 7 [iv (b.qR), iv (b.qS), sv b.qQ, iv (b.wide), iv (b.high), iv (b.heavy), iv (b.shelf)] :: C⟩) h
  ·intro j h
   show T _ _ _ _ _ _;apply T.joinA (r := j) (W := Unit) (fun j w => ⟨[], [(0, v_books), (3, .ptr b3 0 7), (6, iv (at_)), (21, bv j)], .row b3 7 [iv (b.qR), iv (b.qS), sv b.qQ, iv (b.wide), iv (b.high), iv (b.heavy), iv (b.shelf)] :: C⟩) h
   ·intro j h;refine T.drawE (l1 := [0, 1, 2, 3, 4, 5, 6, 7, 8, 9, 10, 11]) (l2 := [12, 13]) (by kernel_rfl) (by kernel_rfl) (yL R4 (Val.move rfl) (yL R4 (Val.move rfl) (yR R4 (Val.len_l h_books M1 rfl rfl) ?_)));obtain ⟨c11, hc11⟩ := zY (at_ < (books.length : Int));refine yL R4 (Val.lss hc11 rfl rfl) (yL R4 (Val.move rfl) ?_);obtain ⟨rfl, hc11, h⟩ | ⟨rfl, hc11, h⟩ := zI hc11 h
    ·refine yL R4 (Val.move rfl) (yL R4 (Val.move rfl) ?_);obtain ⟨a15, hia15, ea15, h⟩ := el_some h;refine TD1.fact (rdl_at h_books M1 hia15 ea15) (fun hp=>?_);obtain ⟨pa15, hpa15, hva15⟩ := hp;refine yL R4 (hva15 ⟨rfl, rfl⟩ rfl rfl) (yL R4 (Val.faddr_e (fo := 0) hpa15 rfl rfl rfl) (yR R4 (Val.load_es (c := [_, _, _]) (PtE.add hpa15 (by decide)) M1 ⟨⟨_, rfl, rfl⟩, rfl, by decide⟩ rfl rfl rfl) (yL R4 (Val.faddr_ptr (fo := 0) rfl rfl rfl) (yR R4 (vW 0 [_,_,_] R5 R4) (TD1.over (fun v => sameC_refl v) (all_cons (⟨_, rfl, (vW 0 [_,_,_] R5 R4)⟩) (all_cons (⟨_, rfl, (Val.load_es (c := [_, _, _]) (PtE.add hpa15 (by decide)) M1 ⟨⟨_, rfl, rfl⟩, rfl, by decide⟩ rfl rfl rfl)⟩) (all_cons (⟨_, rfl, (Val.len_l h_books M1 rfl rfl)⟩) all_nil))) ?_)))));obtain ⟨y20, hr20, h⟩ := andx_some h;refine TD2.heavy (fun v => sameC_refl v) rfl (by decide) rfl rfl (OpS.callV rfl rfl rfl rfl (orcN rfl) (RepF.conv (tf_r9_First aD hr20))) ?_;rintro _ hs_ ⟨_, rfl, he_⟩;subst hs_;refine ⟨(all_cons (.inl (by kernel_rfl)) (all_cons (.inl (by kernel_rfl)) (all_cons (.inl (by kernel_rfl)) all_nil))), all_nil, ?_⟩;refine yG (_::C) rfl (yM R4 (Val.pick rfl rfl rfl) (TD2.nil ?_));cases h;exact ⟨rfl, (), (sb .refl)⟩
    refine TD1.off rfl rfl rfl (TD1.off rfl rfl rfl (TD1.off rfl rfl rfl (TD1.off rfl rfl rfl (TD1.off rfl rfl rfl (TD1.off rfl rfl rfl (TD1.off rfl rfl rfl (TD1.over (fun v => sameC_refl v) (all_cons (⟨_, rfl, (Val.len_l h_books M1 rfl rfl)⟩) all_nil) (TD2.off rfl rfl rfl (yM R4 (Val.pick rfl rfl rfl) (TD2.nil ?_))))))))));cases h;exact ⟨rfl, (), (sb .refl)⟩
   ·rintro x21 _ h;obtain ⟨rfl, h⟩ | ⟨rfl, h⟩ := zZ h
    ·refine zC rfl (zK ?_);cases h;exact ⟨rfl, (), (sb .refl)⟩
    refine zD rfl (zE ?_);cases h;exact ⟨ex_ne, ⟨ex_ne, ⟨rfl, (), (sb .refl)⟩⟩⟩
  ·rintro _ _ h;refine zB (zT rfl (zM R4 ?_));obtain ⟨hk23, h⟩ := chk_some h;refine zV R3 (Val.add rfl rfl hk23) (zA R4 (zN ?_));cases h;exact ⟨rfl, (), (sb .refl)⟩
 ·rintro at_ _ h;refine zS (T.drawE (l1 := [0, 1, 2, 3, 5, 6]) (l2 := [4, 7, 8]) (by kernel_rfl) (by kernel_rfl) (TD1.floatN rfl rfl rfl rfl (New.buildSlice (en := qP) (l := ([] : List qA)) (vs := []) (ws := []) ⟨rfl, rfl⟩ rfl rfl rfl rfl CellsL.nil rfl rfl) (fun v24=>yL R4 (Val.move rfl) (yL R4 (Val.move rfl) ?_))));obtain ⟨hk27, h⟩ := chk_some h;obtain ⟨w27, htw27, hgw27, hvw27⟩ := slice_T ht_books hk27
  have hw27 : Rdl C qP w27 (List.take (at_ - (0 : Int)).toNat (List.drop ((0 : Int) : Int).toNat books)) := RdT.rdl htw27;refine yR R4 (hvw27 ⟨rfl, rfl⟩ rfl .no (.some rfl)) (yR R4 (vW 1 [_,_,_,_,_,_,_] R5 R4) (TD1.floatN rfl rfl rfl rfl (New.buildSlice (en := qP) (l := [(⟨b.qR, b.qS, b.qQ, b.wide, b.high, b.heavy, b.shelf⟩ : qA)]) (vs := [(_, _)]) (ws := [(_, [_, _, _, _, _, _, _])]) ⟨rfl, rfl⟩ rfl rfl rfl rfl (CellsL.cons rfl CellsL.nil) rfl rfl) (fun v30=>TD1.over (fun v => sameC_refl v) (all_cons (⟨_, rfl, (vW 2 [_,_,_,_,_,_,_] R5 R4)⟩) (all_cons (⟨_, rfl, (hvw27 ⟨rfl, rfl⟩ rfl .no (.some rfl))⟩) all_nil)) (TD2.less (Less.floatOwn (en := qP) (l := ([] : List qA)) (p := 1) rfl) (yG (_::_::_::C) rfl ?_)))));obtain ⟨hk28, h⟩ := chk_some h;refine TD2.heavy (fun v => sameC_refl v) rfl (by decide) rfl rfl (OpS.eff (Eff.append_l (b := 64) (en := qP) (l := ([] : List qA)) (p := 1) ⟨rfl, rfl, rfl, ⟨_, rfl, rfl⟩, by decide, by decide⟩ rfl rfl rfl hw27 M3 rfl rfl (en_ones qAf _) (by decide) hk28)) ?_;rintro v28 _ rfl;refine ⟨(all_cons (.inr ⟨_, rfl, (vW 2 [_,_,_,_,_,_,_] R5 R4)⟩) (all_cons (.inl (by kernel_rfl)) all_nil)), (all_cons (.inr (by repeat first | exact List.mem_cons_self | apply List.mem_cons_of_mem)) (all_cons (.inl (by kernel_rfl)) all_nil)), ?_⟩;refine yG (_::_::_::C) rfl (TD2.less (Less.floatOwn (en := qP) (l := [(⟨b.qR, b.qS, b.qQ, b.wide, b.high, b.heavy, b.shelf⟩ : qA)]) (p := 0) rfl) (yG (_::_::_::C) rfl ?_));obtain ⟨hk31, h⟩ := chk_some h;refine TD2.heavy (fun v => sameC_refl v) rfl (by decide) rfl rfl (OpS.eff (Eff.append_own (b := 64) (en := qP) (l := (([] : List qA) ++ (List.take (at_ - (0 : Int)).toNat (List.drop ((0 : Int) : Int).toNat books)))) (l2 := [(⟨b.qR, b.qS, b.qQ, b.wide, b.high, b.heavy, b.shelf⟩ : qA)]) (p := 1) (q := 0) ⟨rfl, rfl, rfl, ⟨_, rfl, rfl⟩, by decide, by decide⟩ rfl rfl rfl rfl rfl rfl (en_ones qAf _) (by decide) hk31)) ?_;rintro v31 _ rfl;refine ⟨(all_cons (.inl (by kernel_rfl)) (all_cons (.inl (by kernel_rfl)) all_nil)), (all_cons (.inl (by kernel_rfl)) (all_cons (.inl (by kernel_rfl)) all_nil)), ?_⟩;refine yG (_::_::_::C) rfl (yM R4 (Val.assign rfl) (TD2.nil (zU rfl (zM R4 (zM R4 (zM R4 ?_))))));obtain ⟨hk35, h⟩ := chk_some h;obtain ⟨w35, htw35, hgw35, hvw35⟩ := slice_T ht_books hk35
  have hw35 : Rdl C qP w35 (List.take ((books.length : Int) - at_).toNat (List.drop (at_ : Int).toNat books)) := RdT.rdl htw35;refine zV R3 (hvw35 ⟨rfl, rfl⟩ rfl (.some rfl) .no) ?_;obtain ⟨hk36, h⟩ := chk_some h;refine TO.eff rfl rfl rfl (Eff.append_l (b := 64) (en := qP) (l := ((([] : List qA) ++ (List.take (at_ - (0 : Int)).toNat (List.drop ((0 : Int) : Int).toNat books))) ++ [(⟨b.qR, b.qS, b.qQ, b.wide, b.high, b.heavy, b.shelf⟩ : qA)])) (p := 1) ⟨rfl, rfl, rfl, ⟨_, rfl, rfl⟩, by decide, by decide⟩ rfl rfl rfl hw35 M3 rfl rfl (en_ones qAf _) (by decide) hk36) ?_;rintro v36 _ rfl;refine zG (_::_::_::C) rfl (zM R4 (zA R4 (zA R4 (zN (zR ?_)))));cases h;exact ⟨rfl, _, rfl, ⟨v36, rfl, (pk [1,98,98] rfl)⟩⟩
set_option maxRecDepth 10000 in
theorem tf_r9_Arranged {k : Nat} (hk : 0 ≤ k) {C : List Thing} {qF : AV} {qG : List Str} {qD : AV} {qC : List qH} {qE : AV} {qB : List qA} {v_books : AV} {books : List qA} {v_shelves : AV} {shelves : List Int} (qV : Rdl C encStr qF qG) (qU : Rdl C qW qD qC) (qT : Rdl C qP qE qB) (h_books : Rdl C qP v_books books) (h_shelves : Rdl C encI v_shelves shelves) {r : Bool} (h : P_r9_Arranged qG qC qB books shelves = some r) :
  TF (EL k) 52 [.agg [qF, qD, qE], v_books, v_shelves] C (RepF (fun (w : Unit) => bv r) (fun (w : Unit) => C)) := by
 unfold P_r9_Arranged at h;refine TF.enter (fn := Go.Proofs.Tryz.f52) rfl rfl rfl rfl rfl (zU rfl (zQ 3 [_,_,_] R7 (fun b3=>zA R4 (zN ?_))))
 show T _ _ _ _ _ _;apply T.join (r := r) (W := Unit) (fun j w => ⟨[], [(1, v_books), (2, v_shelves), (3, .ptr b3 0 3)], .row b3 3 [qF, qD, qE] :: C⟩) h
 ·intro j h;refine zU rfl (zA R4 (zN (zB ?_)))
  show T _ _ _ _ _ _;apply T.iter (r := j) (W := Unit) (fun j w => ⟨[], [(1, v_books), (2, v_shelves), (3, .ptr b3 0 3), (7, iv (j))], .row b3 3 [qF, qD, qE] :: C⟩) (w0 := ()) h
  ·exact (sb .refl)
  rintro i _ a h;unfold P_r9_Arranged_L1 at h;refine zS (zU rfl (zM R4 (zM R4 (zV R3 (Val.len_l h_shelves M1 rfl rfl) ?_))));obtain ⟨c12, hc12⟩ := zY (i < (shelves.length : Int));refine zV R3 (Val.lss hc12 rfl rfl) (zN ?_);obtain ⟨rfl, hc12, h⟩ | ⟨rfl, hc12, h⟩ := zI hc12 h
  ·refine zC rfl (zK (zS (zB (zS (T.draw (fun v => sameC_refl v) (l1 := [0, 1, 2, 3, 4, 5, 6, 7, 8, 9]) (l2 := []) (by kernel_rfl) (by kernel_rfl) (zM R4 (zM R4 ?_)))))));obtain ⟨a17, hia17, ea17, h⟩ := el_some h;refine TO.fact (rdl_at h_shelves M1 hia17 ea17) (fun hp=>?_);obtain ⟨pa17, hpa17, hva17⟩ := hp;refine zV R3 (hva17 ⟨rfl, rfl⟩ rfl rfl) (zV R3 (Val.load_e hpa17 M1 ⟨_, rfl, rfl⟩ rfl rfl) (zM R4 (zM R4 ?_)));obtain ⟨hk21, h⟩ := chk_some h;refine zV R3 (Val.sub rfl rfl hk21) ?_;obtain ⟨a22, hia22, ea22, h⟩ := el_some h;refine TO.fact (rdl_at h_shelves M1 hia22 ea22) (fun hp=>?_);obtain ⟨pa22, hpa22, hva22⟩ := hp;refine zV R3 (hva22 ⟨rfl, rfl⟩ rfl rfl) (zV R3 (Val.load_e hpa22 M1 ⟨_, rfl, rfl⟩ rfl rfl) ?_);obtain ⟨c24, hc24⟩ := zY (a17 < a22);refine zV R3 (Val.lss hc24 rfl rfl) (zN ?_);obtain ⟨rfl, hc24, h⟩ | ⟨rfl, hc24, h⟩ := zI hc24 h
   ·refine zC rfl (zU rfl (zA R4 (zN (zR ?_))));cases h;exact ⟨ret_ne, ⟨ret_ne, ⟨rfl, _, rfl, ⟨(), rfl, (pk [98] rfl)⟩⟩⟩⟩
   refine zD rfl (zK (zT rfl (zM R4 ?_)));obtain ⟨hk14, h⟩ := chk_some h;refine zV R3 (Val.add rfl rfl hk14) (zA R4 (zN ?_));cases h;exact ⟨rfl, (), (sb .refl)⟩
  refine zD rfl (zE ?_);cases h;exact ⟨ex_ne, ⟨rfl, (), (sb .refl)⟩⟩
 ·rintro _ _ h
  show T _ _ _ _ _ _;apply T.join (r := r) (W := Unit) (fun j w => ⟨[], [], .row b3 3 [qF, qD, qE] :: C⟩) h
  ·intro j h;refine zU rfl (zA R4 (zN (zB ?_)))
   show T _ _ _ _ _ _;apply T.iter (r := j) (W := Unit) (fun j w => ⟨[], [(1, v_books), (2, v_shelves), (3, .ptr b3 0 3), (8, iv (j))], .row b3 3 [qF, qD, qE] :: C⟩) (w0 := ()) h
   ·exact (sb .refl)
   rintro s _ a h;unfold P_r9_Arranged_L2 at h;refine zS (zU rfl (zM R4 (zF 1 R6 (zL 0 R3 R6 (zV R3 (Val.len_l qU M1 rfl rfl) ?_)))));obtain ⟨c29, hc29⟩ := zY (s < (qC.length : Int));refine zV R3 (Val.lss hc29 rfl rfl) (zN ?_);obtain ⟨rfl, hc29, h⟩ | ⟨rfl, hc29, h⟩ := zI hc29 h
   ·refine zC rfl (zK (zS (zB (zU rfl (zV R3 (vW 0 [_,_,_] R5 R4) (zM R4 (zM R4 (zM R4 ?_))))))));obtain ⟨y36, hr36, h⟩ := andx_some h;refine TO.callT (first := []) (cap := []) (vs := [.agg [qF, qD, qE], v_books, v_shelves, iv (s)]) rfl rfl rfl rfl rfl rfl (orcN rfl) (tf_r9_fit aD (Rdl.mono qV M1) (Rdl.mono qU M1) (Rdl.mono qT M1) (Rdl.mono h_books M1) (Rdl.mono h_shelves M1) hr36) ?_;rintro _;refine zG (_::C) rfl (zV R3 (Val.not rfl) (zN ?_));obtain ⟨rfl, h⟩ | ⟨rfl, h⟩ := zZ h
    ·refine zD rfl (zK (zT rfl (zM R4 ?_)));obtain ⟨hk31, h⟩ := chk_some h;refine zV R3 (Val.add rfl rfl hk31) (zA R4 (zN ?_));cases h;exact ⟨rfl, (), (sb .refl)⟩
    refine zC rfl (zU rfl (zA R4 (zN (zR ?_))));cases h;exact ⟨ret_ne, ⟨ret_ne, ⟨rfl, _, rfl, ⟨(), rfl, (pk [98] rfl)⟩⟩⟩⟩
   refine zD rfl (zE ?_);cases h;exact ⟨ex_ne, ⟨rfl, (), (sb .refl)⟩⟩
  ·rintro _ _ h;refine zU rfl (zA R4 (zN (zR ?_)));cases h;exact ⟨rfl, _, rfl, ⟨(), rfl, (pk [98] rfl)⟩⟩
set_option maxRecDepth 10000 in
theorem tf_r9_Moved {k : Nat} (hk : 0 ≤ k) {C : List Thing} {v_books : AV} {books : List qA} {v_shelves : AV} {shelves : List Int} {but : Int} (h_books : Rdl C qP v_books books) (h_shelves : Rdl C encI v_shelves shelves) {r : Int} (h : P_r9_Moved books shelves but = some r) :
  TF (EL k) 114 [v_books, v_shelves, iv (but)] C (RepF (fun (w : Unit) => iv r) (fun (w : Unit) => C)) := by
 unfold P_r9_Moved at h;refine TF.enter (fn := Go.Proofs.Tryz.f114) rfl rfl rfl rfl rfl (zU rfl (zA R4 (zN (zU rfl (zA R4 (zN ?_))))))
 show T _ _ _ _ _ _;apply T.joinA (r := r) (W := Unit) (fun j w => ⟨[], [(7, iv (j))], C⟩) h
 ·intro j h;refine zU rfl (zA R4 (zN (zB ?_)))
  show T _ _ _ _ _ _;apply T.iter (r := j) (W := Unit) (fun j w => ⟨[], [(0, v_books), (1, v_shelves), (2, iv (but)), (7, iv (j.1)), (8, iv (j.2))], C⟩) (w0 := ()) h
  ·exact (sb .refl)
  rintro ⟨n, i⟩ _ a h;unfold P_r9_Moved_L1 at h;dsimp only at h;dsimp only;refine zS (zU rfl (zM R4 (zM R4 (zV R3 (Val.len_l h_books mem0 rfl rfl) ?_))));obtain ⟨c12, hc12⟩ := zY (i < (books.length : Int));refine zV R3 (Val.lss hc12 rfl rfl) (zN ?_);obtain ⟨rfl, hc12, h⟩ | ⟨rfl, hc12, h⟩ := zI hc12 h
  ·refine zC rfl (zK ?_)
   show T _ _ _ _ _ _;apply T.joinA (r := a) (W := Unit) (fun j w => ⟨[], [(0, v_books), (1, v_shelves), (2, iv (but)), (7, iv (j)), (8, iv (i))], C⟩) h
   ·intro j h;refine zB ?_
    show T _ _ _ _ _ _;apply T.joinA (r := j) (W := Unit) (fun j w => ⟨[], [(0, v_books), (1, v_shelves), (2, iv (but)), (7, iv (n)), (8, iv (i)), (29, bv j)], C⟩) h
    ·intro j h;refine T.draw (fun v => sameC_refl v) (l1 := [0, 1, 2, 3, 4, 5, 6, 7, 8, 9, 10, 11, 12, 13, 14]) (l2 := []) (by kernel_rfl) (by kernel_rfl) (zM R4 (zM R4 ?_));obtain ⟨c17, hc17⟩ := zY (¬ i = but);refine zV R3 (Val.neq hc17 rfl rfl) (zM R4 ?_);obtain ⟨rfl, hc17, h⟩ | ⟨rfl, hc17, h⟩ := zI hc17 h
     ·refine zM R4 (zM R4 ?_);obtain ⟨a21, hia21, ea21, h⟩ := el_some h;refine TO.fact (rdl_at h_shelves mem0 hia21 ea21) (fun hp=>?_);obtain ⟨pa21, hpa21, hva21⟩ := hp;refine zV R3 (hva21 ⟨rfl, rfl⟩ rfl rfl) (zV R3 (Val.load_e hpa21 mem0 ⟨_, rfl, rfl⟩ rfl rfl) (zM R4 (zM R4 ?_)));obtain ⟨a25, hia25, ea25, h⟩ := el_some h;refine TO.fact (rdl_at h_books mem0 hia25 ea25) (fun hp=>?_);obtain ⟨pa25, hpa25, hva25⟩ := hp;refine zV R3 (hva25 ⟨rfl, rfl⟩ rfl rfl) (zV R3 (Val.faddr_e (fo := 6) hpa25 rfl rfl rfl) (zV R3 (Val.load_e (PtE.add hpa25 (by decide)) mem0 ⟨_, rfl, rfl⟩ rfl rfl) ?_));obtain ⟨c28, hc28⟩ := zY (¬ a21 = a25.shelf);refine zV R3 (Val.neq hc28 rfl rfl) (zP R6 (zN ?_));subst hc28;cases h;exact ⟨rfl, (), (sb .refl)⟩
     refine zO R3 (zO R3 (zO R3 (zO R3 (zO R3 (zO R3 (zO R3 (zO R3 (zO R3 (zO R3 (zP R6 (zN ?_)))))))))));cases h;exact ⟨rfl, (), (sb .refl)⟩
    ·rintro x29 _ h;obtain ⟨rfl, h⟩ | ⟨rfl, h⟩ := zZ h
     ·refine zC rfl (zT rfl (zM R4 ?_));obtain ⟨hk31, h⟩ := chk_some h;refine zV R3 (Val.add rfl rfl hk31) (zA R4 (zN ?_));cases h;exact ⟨rfl, (), (sb .refl)⟩
     refine zD rfl (zK ?_);cases h;exact ⟨rfl, (), (sb .refl)⟩
   ·rintro n_2 _ h;refine zT rfl (zM R4 ?_);obtain ⟨hk14, h⟩ := chk_some h;refine zV R3 (Val.add rfl rfl hk14) (zA R4 (zN ?_));cases h;exact ⟨rfl, (), (sb .refl)⟩
  refine zD rfl (zE ?_);cases h;exact ⟨ex_ne, ⟨rfl, (), (sb .refl)⟩⟩
 ·rintro n _ h;refine zU rfl (zM R4 (zA R4 (zN (zR ?_))));cases h;exact ⟨rfl, _, rfl, ⟨(), rfl, .refl⟩⟩
set_option maxRecDepth 10000 in
theorem tf_r9_Fits {k : Nat} (hk : 2 ≤ k) {C : List Thing} {qF : AV} {qG : List Str} {qD : AV} {qC : List qH} {qE : AV} {qB : List qA} {qK : Int} {qL : Int} {qM : Str} {qJ : Int} {qI : Int} {qN : Int} {qO : Int} (qAa : RdT encStr qF qG) (qAb : RdT qW qD qC) (qZ : RdT qP qE qB) {r : (List Int) × Int} (h : P_r9_Fits qG qC qB qK qL qM qJ qI qN qO = some r) :
  TF (EL k) 31 [.agg [qF, qD, qE], .agg [iv (qK), iv (qL), sv qM, iv (qJ), iv (qI), iv (qN), iv (qO)]] C (RepF (fun (w : AV) => .tuple [w, iv r.2]) (fun (w : AV) => ownL true w encI r.1 :: C)) := by
 unfold P_r9_Fits at h
 have qV : Rdl C encStr qF qG := RdT.rdl qAa
 have qU : Rdl C qW qD qC := RdT.rdl qAb
 have qT : Rdl C qP qE qB := RdT.rdl qZ;refine TF.enter (fn := Go.Proofs.Tryz.f31) rfl rfl rfl rfl rfl (zU rfl (zQ 3 [_,_,_] R7 (fun b2=>zQ 7 [_,_,_,_,_,_,_] R7 (fun b3=>zA R4 (zA R4 (zN (zU rfl (zV R3 (vW 1 [_,_,_] R5 R4) (zV R3 (vW 0 [_,_,_,_,_,_,_] R5 R4) ?_)))))))));obtain ⟨y14, hr14, h⟩ := andx_some h;obtain ⟨g, hgg, hrg⟩ := Rdl.reif (hs := .row b3 7 [iv (qK), iv (qL), sv qM, iv (qJ), iv (qI), iv (qN), iv (qO)] :: .row b2 3 [qF, qD, qE] :: C) qV M2 (ReifL.flat encStr_tr);obtain ⟨g_2, hgg_2, hrg_2⟩ := Rdl.reif (hs := .row b3 7 [iv (qK), iv (qL), sv qM, iv (qJ), iv (qI), iv (qN), iv (qO)] :: .row b2 3 [qF, qD, qE] :: C) qU M2 (ReifL.flat qAe);obtain ⟨g_3, hgg_3, hrg_3⟩ := Rdl.reif (hs := .row b3 7 [iv (qK), iv (qL), sv qM, iv (qJ), iv (qI), iv (qN), iv (qO)] :: .row b2 3 [qF, qD, qE] :: C) qT M2 (ReifL.flat qAd);refine TO.call rfl rfl rfl rfl rfl (orcL rfl aD) (.cons (.agg (.cons (hrg _) (.cons (hrg_2 _) (.cons (hrg_3 _) .nil)))) (.cons (.agg (.cons .lit (.cons .lit (.cons .lit (.cons .lit (.cons .lit (.cons .lit (.cons .lit .nil)))))))) .nil)) (sem_of (w_r9_Further g g_2 g_3 qK qL qM qJ qI qN qO _ (by try rw [hgg]; try rw [hgg_2]; try rw [hgg_3]; exact hr14))) (zA R4 (zN (zS (zU rfl (zM R4 ?_)))));obtain ⟨c16, hc16⟩ := zY (¬ y14 = 0);refine zV R3 (Val.neq hc16 rfl rfl) (zN ?_);obtain ⟨rfl, hc16, h⟩ | ⟨rfl, hc16, h⟩ := zI hc16 h
 ·refine zC rfl (zU rfl (zM R4 (zA R4 (zA R4 (zN (T.nilown (u := encI.u) (zR ?_)))))));cases h;exact ⟨rfl, _, rfl, ⟨nilS, rfl, (pk [0,98,98] rfl)⟩⟩
 refine zD rfl (zK (zU rfl (zF 2 R6 (zL 1 R3 R6 (zV R3 (vW 0 [_,_,_,_,_,_,_] R5 R4) ?_)))));obtain ⟨⟨y22, y22_2⟩, hr22, h⟩ := andx_some h;dsimp only at h;refine TO.callT (first := []) (cap := []) (vs := [qE, .agg [iv (qK), iv (qL), sv qM, iv (qJ), iv (qI), iv (qN), iv (qO)]]) rfl rfl rfl rfl rfl rfl (orcN rfl) (tf_r9_With aD qZ hr22) ?_;rintro w22;refine zG (_::_::_::C) rfl (zM R4 (zX R5 (zX R5 (zA R4 (zA R4 (zN (zU rfl (zA R4 (zN ?_)))))))))
 show T _ _ _ _ _ _;apply T.joinA (r := r) (W := AV) (fun j w => ⟨[], [(9, w)], ownL true w encI j :: ownL false w22 qP y22 :: .row b2 3 [qF, qD, qE] :: C⟩) h
 ·intro j h;refine zU rfl (zA R4 (zN (zB (T.nilown (u := encI.u) ?_))))
  show T _ _ _ _ _ _;apply T.iter (r := j) (W := AV) (fun j w => ⟨[], [(2, .ptr b2 0 3), (7, w22), (8, iv (y22_2)), (9, w), (10, iv (j.1))], ownL true w encI j.2 :: ownL false w22 qP y22 :: .row b2 3 [qF, qD, qE] :: C⟩) (w0 := nilS) h
  ·exact (sb (pk [0,0,1,98] rfl))
  rintro ⟨s, out⟩ v5 a h;unfold P_r9_Fits_L1 at h;dsimp only at h;dsimp only;refine zS (zU rfl (zM R4 (zF 1 R6 (zL 2 R3 R6 (zV R3 (Val.len_l qU M3 rfl rfl) ?_)))));obtain ⟨c29, hc29⟩ := zY (s < (qC.length : Int));refine zV R3 (Val.lss hc29 rfl rfl) (zN ?_);obtain ⟨rfl, hc29, h⟩ | ⟨rfl, hc29, h⟩ := zI hc29 h
  ·refine zC rfl (zK ?_)
   show T _ _ _ _ _ _;apply T.joinA (r := a) (W := AV) (fun j w => ⟨[], [(2, .ptr b2 0 3), (7, w22), (8, iv (y22_2)), (9, w), (10, iv (s))], ownL true w encI j :: ownL false w22 qP y22 :: .row b2 3 [qF, qD, qE] :: C⟩) h
   ·intro j h;refine zB (zU rfl (zM R4 ?_));obtain ⟨y33, hr33, h⟩ := andx_some h;refine TO.callT (first := []) (cap := []) (vs := [w22]) rfl rfl rfl rfl rfl rfl (orcN rfl) (tf_r9_Own aD (Rdl.mono (Rdl.own (C := ownL true v5 encI out :: ownL false w22 qP y22 :: .row b2 3 [qF, qD, qE] :: C) (p := 1) rfl) mem0) hr33) ?_;rintro w33;refine zG (_::_::_::_::C) rfl (zA R4 (zN (zU rfl (zM R4 (zM R4 (zM R4 ?_))))));obtain ⟨a37, hia37, ea37, h⟩ := el_some h;refine TO.fact (own_at (en := encI) (p := 0) rfl hia37) (fun hp=>?_);obtain ⟨ida37, ata37⟩ := hp;refine zV R3 (Val.iaddr_at (en := encI) ata37 ⟨rfl, rfl⟩ rfl rfl hia37) (TO.eff0 rfl rfl (Eff.store_ownE (en := encI) (p := 0) (a := a37) (a' := s) (j := 0) (cv := [_]) rfl ata37 ea37 rfl rfl (by decide) rfl rfl rfl rfl aG rfl) ?_);rintro _ rfl;refine zG (_::_::_::_::C) rfl (zN (zU rfl (zV R3 (vW 3 [_,_,_] R5 R4) (zM R4 (zM R4 ?_)))));obtain ⟨y41, hr41, h⟩ := andx_some h;refine TO.callT (first := []) (cap := []) (vs := [.agg [qF, qD, qE], w22, w33]) rfl rfl rfl rfl rfl rfl (orcN rfl) (tf_r9_Arranged aD (Rdl.mono qV M4) (Rdl.mono qU M4) (Rdl.mono qT M4) (Rdl.mono (Rdl.own (C := ownL true w33 encI (List.set y33 y22_2.toNat s) :: ownL true v5 encI out :: ownL false w22 qP y22 :: .row b2 3 [qF, qD, qE] :: C) (p := 2) rfl) mem0) (Rdl.mono (Rdl.own (C := ownL true w33 encI (List.set y33 y22_2.toNat s) :: ownL true v5 encI out :: ownL false w22 qP y22 :: .row b2 3 [qF, qD, qE] :: C) (p := 0) rfl) mem0) hr41) ?_;rintro _;refine zG (_::_::_::_::C) rfl (zN ?_);obtain ⟨rfl, h⟩ | ⟨rfl, h⟩ := zZ h
    ·refine zC rfl (zT rfl (zM R4 (zM R4 (TO.build1 (en := encI) (a := s) rfl rfl rfl ⟨rfl, rfl⟩ ⟨_, rfl, rfl⟩ (by decide) (by decide) rfl rfl (fun v44=>?_)))));obtain ⟨hk45, h⟩ := chk_some h;refine TO.eff rfl rfl rfl (Eff.append_own (b := 8) (en := encI) (l := out) (l2 := [s]) (p := 2) (q := 0) ⟨rfl, rfl, rfl, ⟨_, rfl, rfl⟩, by decide, by decide⟩ rfl rfl rfl rfl rfl rfl (flat_ones _) (by decide) hk45) ?_;rintro v45 _ rfl;refine zG (_::_::_::_::_::C) rfl (zA R4 (zN ?_));cases h;exact ⟨rfl, v45, (sb (pk [2,2,2,98,98] rfl))⟩
    refine zD rfl (zK ?_);cases h;exact ⟨rfl, v5, (sb (pk [1,1,1,98] rfl))⟩
   ·rintro out_2 v5_2 h;refine zT rfl (zM R4 ?_);obtain ⟨hk31, h⟩ := chk_some h;refine zV R3 (Val.add rfl rfl hk31) (zA R4 (zN ?_));cases h;exact ⟨rfl, v5_2, (sb .refl)⟩
  refine zD rfl (zE ?_);cases h;exact ⟨ex_ne, ⟨rfl, v5, (sb .refl)⟩⟩
 ·rintro out v5 h;refine zU rfl (zM R4 (zA R4 (zA R4 (zN (zR ?_)))));cases h;exact ⟨rfl, _, rfl, ⟨v5, rfl, (pk [0,98,98] rfl)⟩⟩
theorem w_r9_Fits (qG : GS encStr) (qC : GS qW) (qB : GS qP) (qK : Int) (qL : Int) (qM : Str) (qJ : Int) (qI : Int) (qN : Int) (qO : Int) (r : (List Int) × Int) (h : P_r9_Fits qG.l qC.l qB.l qK qL qM qJ qI qN qO = some r) : Comes (EL 2) 31 [.agg [qG.v, qC.v, qB.v], .agg [iv (qK), iv (qL), sv qM, iv (qJ), iv (qI), iv (qN), iv (qO)]] (.tuple [(GSo true encI r.1).v, iv r.2]) :=
 TF.run (tf_r9_Fits (Nat.le_refl _) (RdT.gs qG) (RdT.gs qC) (RdT.gs qB) h) fun w => (.tuple (.cons (.ownL (en := encI) (p := 0) rfl (.lits encI_lits)) (.cons .lit .nil)))
set_option maxRecDepth 10000 in
theorem tf_s9_ordered {k : Nat} (hk : 0 ≤ k) {C : List Thing} {v_l : AV} {l : List qA} (h_l : Rdl C qP v_l l) {r : Bool} (h : P_s9_ordered l = some r) :
  TF (EL k) 105 [v_l] C (RepF (fun (w : Unit) => bv r) (fun (w : Unit) => C)) := by
 unfold P_s9_ordered at h;refine TF.enter (fn := Go.Proofs.Tryz.f105) rfl rfl rfl rfl rfl (zU rfl (zA R4 (zN (zU rfl (zM R4 ?_)))));refine TO.callJ (W := Unit) (fun (j : Bool) (w : Unit) => bv j) (fun (j : Bool) (w : Unit) => C) h rfl rfl rfl rfl rfl rfl (orcN rfl) ?_ ?_
 ·intro j h;refine TF.enter (fn := Go.Proofs.Tryz.f136) rfl rfl rfl rfl rfl (zU rfl (zA R4 (zN ?_)))
  show T _ _ _ _ _ _;apply T.join (r := j) (W := Unit) (fun j w => ⟨[], [], C⟩) h
  ·intro j h;refine zU rfl (zM R4 (zV R3 (Val.len_l h_l mem0 rfl rfl) ?_));obtain ⟨hk8, h⟩ := chk_some h;refine zV R3 (Val.sub rfl rfl hk8) (zA R4 (zN (zB ?_)))
   show T _ _ _ _ _ _;apply T.iter (r := j) (W := Unit) (fun j w => ⟨[], [(0, v_l), (1, .func 137 [] []), (5, iv (j))], C⟩) (w0 := ()) h
   ·exact (sb .refl)
   rintro i _ a h;unfold P_s9_ordered_L1 at h;refine zS (zU rfl (zM R4 ?_));obtain ⟨c10, hc10⟩ := zY (i > 0);refine zV R3 (Val.gtr hc10 rfl rfl) (zN ?_);obtain ⟨rfl, hc10, h⟩ | ⟨rfl, hc10, h⟩ := zI hc10 h
   ·refine zC rfl (zK (zS (zB (zS (T.drawE (l1 := [0, 1, 2, 3, 4, 5, 6, 7, 8, 9]) (l2 := [10, 11]) (by kernel_rfl) (by kernel_rfl) (yL R4 (Val.move rfl) (yL R4 (Val.move rfl) (yL R4 (Val.move rfl) ?_))))))));obtain ⟨a16, hia16, ea16, h⟩ := el_some h;refine TD1.fact (rdl_at h_l mem0 hia16 ea16) (fun hp=>?_);obtain ⟨pa16, hpa16, hva16⟩ := hp;refine yL R4 (hva16 ⟨rfl, rfl⟩ rfl rfl) (yR R4 (Val.load_es (c := [_, _, _, _, _, _, _]) hpa16 mem0 ⟨⟨_, rfl, rfl⟩, rfl, by decide⟩ rfl rfl rfl) (yL R4 (Val.move rfl) (yL R4 (Val.move rfl) ?_)));obtain ⟨hk20, h⟩ := chk_some h;refine yL R4 (Val.sub rfl rfl hk20) ?_;obtain ⟨a21, hia21, ea21, h⟩ := el_some h;refine TD1.fact (rdl_at h_l mem0 hia21 ea21) (fun hp=>?_);obtain ⟨pa21, hpa21, hva21⟩ := hp;refine yL R4 (hva21 ⟨rfl, rfl⟩ rfl rfl) (yR R4 (Val.load_es (c := [_, _, _, _, _, _, _]) hpa21 mem0 ⟨⟨_, rfl, rfl⟩, rfl, by decide⟩ rfl rfl rfl) (TD1.over (fun v => sameC_refl v) (all_cons (⟨_, rfl, (Val.load_es (c := [_, _, _, _, _, _, _]) hpa21 mem0 ⟨⟨_, rfl, rfl⟩, rfl, by decide⟩ rfl rfl rfl)⟩) (all_cons (⟨_, rfl, (Val.load_es (c := [_, _, _, _, _, _, _]) hpa16 mem0 ⟨⟨_, rfl, rfl⟩, rfl, by decide⟩ rfl rfl rfl)⟩) all_nil)) ?_));refine TD2.callJ (fun v => sameC_refl v) (W := Unit) (fun (j : Int) (w : Unit) => iv (j)) (fun (j : Int) (w : Unit) => C) h rfl (by decide) rfl rfl rfl rfl rfl (orcN rfl) ?_ ?_
    ·intro j h;refine TF.enter (fn := Go.Proofs.Tryz.f137) rfl rfl rfl rfl rfl (zU rfl (zQ 7 [_,_,_,_,_,_,_] R7 (fun b2=>zQ 7 [_,_,_,_,_,_,_] R7 (fun b3=>zA R4 (zN (zU rfl (zF 0 R6 (zV R3 (vW 1 [_,_,_] R5 R4) (zF 0 R6 (zV R3 (vW 0 [_,_,_] R5 R4) ?_))))))))));obtain ⟨y9, hr9, h⟩ := andx_some h;refine TO.callT (first := []) (cap := []) (vs := [.agg [iv (a16.qR), iv (a16.qS), sv a16.qQ], .agg [iv (a21.qR), iv (a21.qS), sv a21.qQ]]) rfl rfl rfl rfl rfl rfl (orcN rfl) (tf_s9_compare aD hr9) ?_;rintro _;refine zG (_::_::C) rfl (zA R4 (zN (zR ?_)));cases h;exact ⟨rfl, _, rfl, ⟨(), rfl, (pk [98,98] rfl)⟩⟩
    ·rintro y23 _ h;refine ⟨(all_cons (.inl (by kernel_rfl)) (all_cons (.inl (by kernel_rfl)) all_nil)), all_nil, ?_⟩;refine yG (C) rfl ?_;obtain ⟨c24, hc24⟩ := zY (y23 < 0);refine yM R4 (Val.lss hc24 rfl rfl) (TD2.nil ?_);obtain ⟨rfl, hc24, h⟩ | ⟨rfl, hc24, h⟩ := zI hc24 h
     ·refine zC rfl (zU rfl (zA R4 (zN (zR ?_))));cases h;exact ⟨ret_ne, ⟨ret_ne, ⟨rfl, _, rfl, ⟨(), rfl, .refl⟩⟩⟩⟩
     refine zD rfl (zK (zT rfl (zM R4 ?_)));obtain ⟨hk12, h⟩ := chk_some h;refine zV R3 (Val.sub rfl rfl hk12) (zA R4 (zN ?_));cases h;exact ⟨rfl, (), (sb .refl)⟩
   refine zD rfl (zE ?_);cases h;exact ⟨ex_ne, ⟨rfl, (), (sb .refl)⟩⟩
  ·rintro _ _ h;refine zU rfl (zA R4 (zN (zR ?_)));cases h;exact ⟨rfl, _, rfl, ⟨(), rfl, .refl⟩⟩
 ·rintro y4 _ h;refine zG (C) rfl (zA R4 (zN (zR ?_)));cases h;exact ⟨rfl, _, rfl, ⟨(), rfl, .refl⟩⟩
set_option maxRecDepth 10000 in
theorem tf_s9_enter {k : Nat} (hk : 1 ≤ k) {C : List Thing} {qF : AV} {qG : List Str} {qD : AV} {qC : List qH} {qE : AV} {qB : List qA} {b : qA} (qAa : RdT encStr qF qG) (qAb : RdT qW qD qC) (qZ : RdT qP qE qB) {r : Sum (Int × Int) ((List qA) × Int × Int)} (h : P_s9_enter qG qC qB b = some r) :
  TF (EL k) 96 [.agg [qF, qD, qE], .agg [iv (b.qR), iv (b.qS), sv b.qQ, iv (b.wide), iv (b.high), iv (b.heavy), iv (b.shelf)]] C (RepS (fun (r : Int × Int) => RepF (fun (w : Unit) => .tuple [.agg [qF, qD, qE], iv r.1, iv r.2]) (fun (w : Unit) => C)) (fun (r : (List qA) × Int × Int) => RepF (fun (w : AV) => .tuple [.agg [qF, qD, w], iv r.2.1, iv r.2.2]) (fun (w : AV) => ownL false w qP r.1 :: C)) r) := by
 unfold P_s9_enter at h
 have qV : Rdl C encStr qF qG := RdT.rdl qAa
 have qU : Rdl C qW qD qC := RdT.rdl qAb
 have qT : Rdl C qP qE qB := RdT.rdl qZ;refine TF.enterG (fn := Go.Proofs.Tryz.f96) rfl rfl rfl rfl rfl (zU rfl (zQ 3 [_,_,_] R7 (fun b2=>zQ 7 [_,_,_,_,_,_,_] R7 (fun b3=>zJ 3 [_,_,_] R7 (fun b4=>zA R4 (zA R4 (zN (zS (zU rfl (zV R3 (vW 2 [_,_,_] R5 R4) ?_))))))))));obtain ⟨y9, hr9, h⟩ := andx_some h;refine TO.callT (first := []) (cap := []) (vs := [.agg [qF, qD, qE]]) rfl rfl rfl rfl rfl rfl (orcN rfl) (tf_s9_open aD (Rdl.mono qV M3) (Rdl.mono qU M3) (Rdl.mono qT M3) hr9) ?_;rintro _;refine zG (_::_::_::C) rfl (zM R4 (zX R5 (zX R5 (TO.fact (rdl_cellS qV M3) (fun qX=>TO.fact (rdl_cellS qU M3) (fun qY=>TO.fact (rdl_cellS qT M3) (fun qAc=>TO.eff0 rfl rfl (Eff.store_row (p := 0) (cv := [_, _, _]) (cells' := [_, _, _]) rfl rfl rfl rfl rfl rfl rfl rfl (by first | rfl | (simp [GS.one, qX.2, qY.2, qAc.2]; done) | (simp [GS.one, qX.2, qY.2, qAc.2]; (repeat' apply And.intro) <;> rfl)) (by decide) rfl) ?_)))))));rintro _ rfl;refine zG (_::_::_::C) rfl (zA R4 (zN (zU rfl (zM R4 ?_))));obtain ⟨c13, hc13⟩ := zY (¬ y9 = 0);refine zV R3 (Val.neq hc13 rfl rfl) (zN ?_);obtain ⟨rfl, hc13, h⟩ | ⟨rfl, hc13, h⟩ := zI hc13 h
 ·refine zC rfl (zU rfl (zV R3 (vW 0 [_,_,_] R5 R4) (zM R4 (TO.fact (rdl_cellS qV M3) (fun qX=>TO.fact (rdl_cellS qU M3) (fun qY=>TO.fact (rdl_cellS qT M3) (fun qAc=>TO.eff0 rfl rfl (Eff.store_row (p := 0) (cv := [_, _, _]) (cells' := [_, _, _]) rfl rfl rfl rfl rfl rfl rfl rfl (by first | rfl | (simp [GS.one, qX.2, qY.2, qAc.2]; done) | (simp [GS.one, qX.2, qY.2, qAc.2]; (repeat' apply And.intro) <;> rfl)) (by decide) rfl) ?_)))))));rintro _ rfl;refine zG (_::_::_::C) rfl (zA R4 (zA R4 (zN (zR ?_))));cases h;exact ⟨rfl, _, rfl, [_, _, _], ⟨⟨_, rfl, LoadR.rows (p := 0) (c := [_, _, _]) rfl ⟨⟨_, rfl, rfl⟩, rfl, by decide⟩ rfl rfl rfl⟩, ⟨rfl, ⟨rfl, trivial⟩⟩⟩, ⟨(), rfl, (pk [98,98,98] rfl)⟩⟩
 refine zD rfl (zK (zU rfl (zV R3 (vW 0 [_,_,_] R5 R4) (zV R3 (vW 1 [_,_,_,_,_,_,_] R5 R4) (zF 2 R6 (zL 2 R3 R6 ?_))))));obtain ⟨y20, hr20, h⟩ := andx_some h;refine TO.callT (first := []) (cap := []) (vs := [.agg [qF, qD, qE], .agg [iv (b.qR), iv (b.qS), sv b.qQ, iv (b.wide), iv (b.high), iv (b.heavy), iv (b.shelf)], qE]) rfl rfl rfl rfl rfl rfl (orcN rfl) (tf_s9_book aD (Rdl.mono qV M3) (Rdl.mono qU M3) (Rdl.mono qT M3) (Rdl.mono qT M3) hr20) ?_;rintro _;refine zG (_::_::_::C) rfl (zA R4 (zN (zS (zB (zU rfl (zM R4 ?_))))));obtain ⟨c23, hc23⟩ := zY (¬ y20 = 0);refine zV R3 (Val.neq hc23 rfl rfl) (zA R4 (zN ?_));obtain ⟨rfl, hc23, h⟩ | ⟨rfl, hc23, h⟩ := zI hc23 h
 ·refine zC rfl (zU rfl (zV R3 (vW 0 [_,_,_] R5 R4) (zM R4 (TO.fact (rdl_cellS qV M3) (fun qX=>TO.fact (rdl_cellS qU M3) (fun qY=>TO.fact (rdl_cellS qT M3) (fun qAc=>TO.eff0 rfl rfl (Eff.store_row (p := 0) (cv := [_, _, _]) (cells' := [_, _, _]) rfl rfl rfl rfl rfl rfl rfl rfl (by first | rfl | (simp [GS.one, qX.2, qY.2, qAc.2]; done) | (simp [GS.one, qX.2, qY.2, qAc.2]; (repeat' apply And.intro) <;> rfl)) (by decide) rfl) ?_)))))));rintro _ rfl;refine zG (_::_::_::C) rfl (zA R4 (zA R4 (zN (zR ?_))));cases h;exact ⟨rfl, _, rfl, [_, _, _], ⟨⟨_, rfl, LoadR.rows (p := 0) (c := [_, _, _]) rfl ⟨⟨_, rfl, rfl⟩, rfl, by decide⟩ rfl rfl rfl⟩, ⟨rfl, ⟨rfl, trivial⟩⟩⟩, ⟨(), rfl, (pk [98,98,98] rfl)⟩⟩
 refine zD rfl (zU rfl (zF 2 R6 (zL 2 R3 R6 ?_)));obtain ⟨y29, hr29, h⟩ := andx_some h;refine TO.callT (first := []) (cap := []) (vs := [qE]) rfl rfl rfl rfl rfl rfl (orcN rfl) (tf_s9_ordered aD (Rdl.mono qT M3) hr29) ?_;rintro _;refine zG (_::_::_::C) rfl (zV R3 (Val.not rfl) (zA R4 (zN ?_)));obtain ⟨rfl, h⟩ | ⟨rfl, h⟩ := zZ h
 ·refine zD rfl (zK ?_)
  show T _ _ _ _ _ _;apply T.joinA (r := r) (W := Unit) (fun j w => ⟨[], [(2, .ptr b2 0 3), (3, .ptr b3 0 7), (4, .ptr b4 0 3), (5, iv (j))], .row b4 3 [qF, qD, qE] :: .row b3 7 [iv (b.qR), iv (b.qS), sv b.qQ, iv (b.wide), iv (b.high), iv (b.heavy), iv (b.shelf)] :: .row b2 3 [qF, qD, qE] :: C⟩) h
  ·intro j h;refine zB ?_
   show T _ _ _ _ _ _;apply T.iter (r := j) (W := Unit) (fun j w => ⟨[], [(2, .ptr b2 0 3), (3, .ptr b3 0 7), (4, .ptr b4 0 3), (5, iv (j))], .row b4 3 [qF, qD, qE] :: .row b3 7 [iv (b.qR), iv (b.qS), sv b.qQ, iv (b.wide), iv (b.high), iv (b.heavy), iv (b.shelf)] :: .row b2 3 [qF, qD, qE] :: C⟩) (w0 := ()) h
   ·exact (sb .refl)
   rintro at_ _ a h;unfold P_s9_enter_L1 at h
   show T _ _ _ _ _ _;apply T.join (r := a) (W := Unit) (fun j w => ⟨[], [(2, .ptr b2 0 3), (3, .ptr b3 0 7), (4, .ptr b4 0 3), (5, iv (at_))], .row b4 3 [qF, qD, qE] :: .row b3 7 [iv (b.qR), iv (b.qS), sv b.qQ, iv (b.wide), iv (b.high), iv (b.heavy), iv (b.shelf)] :: .row b2 3 [qF, qD, qE] :: C⟩) h
   ·intro j h
    show T _ _ _ _ _ _;apply T.joinA (r := j) (W := Unit) (fun j w => ⟨[], [(2, .ptr b2 0 3), (3, .ptr b3 0 7), (4, .ptr b4 0 3), (5, iv (at_)), (48, bv j)], .row b4 3 [qF, qD, qE] :: .row b3 7 [iv (b.qR), iv (b.qS), sv b.qQ, iv (b.wide), iv (b.high), iv (b.heavy), iv (b.shelf)] :: .row b2 3 [qF, qD, qE] :: C⟩) h
    ·intro j h;refine T.drawE (l1 := [0, 1, 2, 3, 4, 5, 6, 7, 8, 9, 10, 11, 12, 13]) (l2 := [14, 15, 16]) (by kernel_rfl) (by kernel_rfl) (yL R4 (Val.move rfl) (yL R4 (Val.faddr_ptr (fo := 2) rfl rfl rfl) (yR R4 (vR (p := 2) R6) (yR R4 (Val.len_l qT M3 rfl rfl) ?_))));obtain ⟨c36, hc36⟩ := zY (at_ < (qB.length : Int));refine yL R4 (Val.lss hc36 rfl rfl) (yL R4 (Val.move rfl) ?_);obtain ⟨rfl, hc36, h⟩ | ⟨rfl, hc36, h⟩ := zI hc36 h
     ·refine yL R4 (Val.faddr_ptr (fo := 2) rfl rfl rfl) (yR R4 (vR (p := 2) R6) (yL R4 (Val.move rfl) ?_));obtain ⟨a41, hia41, ea41, h⟩ := el_some h;refine TD1.fact (rdl_at qT M3 hia41 ea41) (fun hp=>?_);obtain ⟨pa41, hpa41, hva41⟩ := hp;refine yL R4 (hva41 ⟨rfl, rfl⟩ rfl rfl) (yL R4 (Val.faddr_e (fo := 0) hpa41 rfl rfl rfl) (yR R4 (Val.load_es (c := [_, _, _]) (PtE.add hpa41 (by decide)) M3 ⟨⟨_, rfl, rfl⟩, rfl, by decide⟩ rfl rfl rfl) (yL R4 (Val.faddr_ptr (fo := 0) rfl rfl rfl) (yR R4 (vW 1 [_,_,_] R5 R4) (TD1.over (fun v => sameC_refl v) (all_cons (⟨_, rfl, (vW 1 [_,_,_] R5 R4)⟩) (all_cons (⟨_, rfl, (Val.load_es (c := [_, _, _]) (PtE.add hpa41 (by decide)) M3 ⟨⟨_, rfl, rfl⟩, rfl, by decide⟩ rfl rfl rfl)⟩) (all_cons (⟨_, rfl, (vR (p := 2) R6)⟩) (all_cons (⟨_, rfl, (Val.len_l qT M3 rfl rfl)⟩) (all_cons (⟨_, rfl, (vR (p := 2) R6)⟩) all_nil))))) ?_)))));obtain ⟨y46, hr46, h⟩ := andx_some h;refine TD2.heavy (fun v => sameC_refl v) rfl (by decide) rfl rfl (OpS.callV rfl rfl rfl rfl (orcN rfl) (RepF.conv (tf_s9_compare aD hr46))) ?_;rintro _ hs_ ⟨_, rfl, he_⟩;subst hs_;refine ⟨(all_cons (.inl (by kernel_rfl)) (all_cons (.inl (by kernel_rfl)) (all_cons (.inl (by kernel_rfl)) (all_cons (.inl (by kernel_rfl)) (all_cons (.inl (by kernel_rfl)) all_nil))))), all_nil, ?_⟩;refine yG (_::_::_::C) rfl ?_;obtain ⟨c47, hc47⟩ := zY (y46 < 0);refine yM R4 (Val.lss hc47 rfl rfl) (yM R4 (Val.pick rfl rfl rfl) (TD2.nil ?_));subst hc47;cases h;exact ⟨rfl, (), (sb .refl)⟩
     refine TD1.off rfl rfl rfl (TD1.off rfl rfl rfl (TD1.off rfl rfl rfl (TD1.off rfl rfl rfl (TD1.off rfl rfl rfl (TD1.off rfl rfl rfl (TD1.off rfl rfl rfl (TD1.off rfl rfl rfl (TD1.over (fun v => sameC_refl v) (all_cons (⟨_, rfl, (Val.len_l qT M3 rfl rfl)⟩) (all_cons (⟨_, rfl, (vR (p := 2) R6)⟩) all_nil)) (TD2.off rfl rfl rfl (TD2.off rfl rfl rfl (yM R4 (Val.pick rfl rfl rfl) (TD2.nil ?_))))))))))));cases h;exact ⟨rfl, (), (sb .refl)⟩
    ·rintro x48 _ h;obtain ⟨rfl, h⟩ | ⟨rfl, h⟩ := zZ h
     ·refine zC rfl (zK ?_);cases h;exact ⟨rfl, (), (sb .refl)⟩
     refine zD rfl (zE ?_);cases h;exact ⟨ex_ne, ⟨ex_ne, ⟨rfl, (), (sb .refl)⟩⟩⟩
   ·rintro _ _ h;refine zB (zT rfl (zM R4 ?_));obtain ⟨hk50, h⟩ := chk_some h;refine zV R3 (Val.add rfl rfl hk50) (zA R4 (zN ?_));cases h;exact ⟨rfl, (), (sb .refl)⟩
  ·rintro at_ _ h;refine zU rfl (zF 2 R6 (zL 2 R3 R6 (zV R3 (Val.len_l qT M3 rfl rfl) ?_)));obtain ⟨hk54, h⟩ := chk_some h;refine zV R3 (Val.add rfl rfl hk54) ?_;obtain ⟨hk55, h⟩ := chk_some h;refine TO.makeEV (en := qP) ((⟨0, 0, ([] : Str), 0, 0, 0, 0⟩ : qA)) (b := 64) rfl rfl rfl ⟨rfl, rfl⟩ rfl rfl rfl rfl rfl hk55 (by decide) (fun v55 vw55=>zF 0 R6 (zF 2 R6 (TO.fact (own_cellS (p := 0) rfl) (fun hot4=>TO.eff0 rfl rfl (Eff.store_row (p := 1) (cv := [_]) (cells' := [_, _, _]) rfl rfl rfl rfl rfl hot4.1 rfl rfl (by first | rfl | (simp [GS.one, hot4.2]; done)) (by decide) rfl) ?_))));rintro _ rfl;refine zG (_::_::_::_::C) rfl (zN (zS (T.drawE (l1 := [0, 1, 2, 3, 4, 5, 6]) (l2 := [7]) (by kernel_rfl) (by kernel_rfl) (yL R4 (Val.faddr_ptr (fo := 0) rfl rfl rfl) (yL R4 (Val.faddr_ptr (fo := 2) rfl rfl rfl) (yR R4 (vR (p := 1) R6) (yL R4 (Val.faddr_ptr (fo := 2) rfl rfl rfl) (yR R4 (vR (p := 3) R6) (yL R4 (Val.move rfl) ?_)))))))));obtain ⟨hk64, h⟩ := chk_some h;obtain ⟨w64, htw64, hgw64, hvw64⟩ := slice_T qZ hk64
   have hw64 : Rdl C qP w64 (List.take (at_ - (0 : Int)).toNat (List.drop ((0 : Int) : Int).toNat qB)) := RdT.rdl htw64;refine yR R4 (hvw64 ⟨rfl, rfl⟩ rfl .no (.some rfl)) (TD1.over (fun v => sameC_refl v) (all_cons (⟨_, rfl, (hvw64 ⟨rfl, rfl⟩ rfl .no (.some rfl))⟩) (all_cons (⟨_, rfl, (vR (p := 3) R6)⟩) (all_cons (⟨_, rfl, (vR (p := 1) R6)⟩) all_nil))) ?_);obtain ⟨hkcp, h⟩ := chk_some h;refine TD2.heavy (fun v => sameC_refl v) rfl (by decide) rfl rfl (OpS.eff (Eff.copyAt (en := qP) (k := 0) (p := 0) ⟨rfl, rfl⟩ (by decide) rfl rfl vw55 hw64 M4 rfl rfl (en_ones qAf _) hkcp)) ?_;rintro _ _ ⟨rfl, rfl⟩;refine ⟨(all_cons (.inl (by kernel_rfl)) (all_cons (.inl (by kernel_rfl)) (all_cons (.inl (by kernel_rfl)) all_nil))), all_nil, ?_⟩
   have vw : ViewOf v55 qP.u (copyIn (List.replicate ((qB.length : Int) + 1).toNat (⟨0, 0, ([] : Str), 0, 0, 0, 0⟩ : qA)) 0 (List.take (at_ - (0 : Int)).toNat (List.drop ((0 : Int) : Int).toNat qB))).length 0 v55 := by rw [copyIn_len hkcp]; exact vw55
   refine yG (_::_::_::_::C) rfl (TD2.nil (zS (T.drawE (l1 := [0, 1, 2, 3, 4, 5, 6, 7, 8, 9]) (l2 := [10]) (by kernel_rfl) (by kernel_rfl) (yL R4 (Val.faddr_ptr (fo := 0) rfl rfl rfl) (yL R4 (Val.faddr_ptr (fo := 2) rfl rfl rfl) (yR R4 (vR (p := 1) R6) (yL R4 (Val.move rfl) ?_)))))));obtain ⟨hk70, h⟩ := chk_some h;refine yL R4 (Val.add rfl rfl hk70) ?_;obtain ⟨hk71, h⟩ := chk_some h;obtain ⟨w71, hw71, hvalw71⟩ := view_slice (k := 0) (j := (at_ + 1)) vw (by have := hk71; omega);refine yR R4 (hvalw71 (p := 0) ⟨rfl, rfl⟩ rfl rfl rfl) (yL R4 (Val.faddr_ptr (fo := 2) rfl rfl rfl) (yR R4 (vR (p := 3) R6) (yL R4 (Val.move rfl) ?_)));obtain ⟨hk75, h⟩ := chk_some h;obtain ⟨w75, htw75, hgw75, hvw75⟩ := slice_T qZ hk75
   have hw75 : Rdl C qP w75 (List.take ((qB.length : Int) - at_).toNat (List.drop (at_ : Int).toNat qB)) := RdT.rdl htw75;refine yR R4 (hvw75 ⟨rfl, rfl⟩ rfl (.some rfl) .no) (TD1.over (fun v => sameC_refl v) (all_cons (⟨_, rfl, (hvw75 ⟨rfl, rfl⟩ rfl (.some rfl) .no)⟩) (all_cons (⟨_, rfl, (vR (p := 3) R6)⟩) (all_cons (⟨_, rfl, (hvalw71 (p := 0) ⟨rfl, rfl⟩ rfl rfl rfl)⟩) (all_cons (⟨_, rfl, (vR (p := 1) R6)⟩) all_nil)))) ?_);obtain ⟨hkcp_2, h⟩ := chk_some h;refine TD2.heavy (fun v => sameC_refl v) rfl (by decide) rfl rfl (OpS.eff (Eff.copyAt (en := qP) (k := (0 + ((at_ + 1)).toNat)) (p := 0) ⟨rfl, rfl⟩ (by decide) rfl rfl hw71 hw75 M4 rfl rfl (en_ones qAf _) hkcp_2)) ?_;rintro _ _ ⟨rfl, rfl⟩;refine ⟨(all_cons (.inl (by kernel_rfl)) (all_cons (.inl (by kernel_rfl)) (all_cons (.inl (by kernel_rfl)) (all_cons (.inl (by kernel_rfl)) all_nil)))), all_nil, ?_⟩
   have vw_2 : ViewOf v55 qP.u (copyIn (copyIn (List.replicate ((qB.length : Int) + 1).toNat (⟨0, 0, ([] : Str), 0, 0, 0, 0⟩ : qA)) 0 (List.take (at_ - (0 : Int)).toNat (List.drop ((0 : Int) : Int).toNat qB))) (0 + ((at_ + 1)).toNat) (List.take ((qB.length : Int) - at_).toNat (List.drop (at_ : Int).toNat qB))).length 0 v55 := by rw [copyIn_len hkcp_2]; exact vw
   refine yG (_::_::_::_::C) rfl (TD2.nil (zU rfl (zF 0 R6 (zF 2 R6 (zL 1 R3 R6 (zM R4 (zV R3 (vW 2 [_,_,_,_,_,_,_] R5 R4) ?_)))))));obtain ⟨a82, hia82, ea82, h⟩ := el_some h;refine TO.fact (own_at (en := qP) (p := 0) rfl hia82) (fun hp=>?_);obtain ⟨ida82, ata82⟩ := hp;refine zV R3 (Val.iaddr_at (en := qP) ata82 ⟨rfl, rfl⟩ rfl rfl hia82) (TO.eff0 rfl rfl (Eff.store_ownE (en := qP) (p := 0) (a := a82) (a' := (⟨b.qR, b.qS, b.qQ, b.wide, b.high, b.heavy, b.shelf⟩ : qA)) (j := 0) (cv := [_, _, _, _, _, _, _]) rfl ata82 ea82 rfl rfl (by decide) rfl rfl rfl rfl aG rfl) ?_);rintro _ rfl;refine zG (_::_::_::_::C) rfl (zN (zU rfl (zV R3 (vW 1 [_,_,_] R5 R4) (zM R4 (TO.fact (rdl_cellS qV M4) (fun qX=>TO.fact (rdl_cellS qU M4) (fun qY=>TO.fact (own_cellS (p := 0) rfl) (fun hot4=>TO.eff0 rfl rfl (Eff.store_row (p := 1) (cv := [_, _, _]) (cells' := [_, _, _]) rfl rfl rfl rfl rfl rfl rfl rfl (by first | rfl | (simp [GS.one, qX.2, qY.2, hot4.2]; done) | (simp [GS.one, qX.2, qY.2, hot4.2]; (repeat' apply And.intro) <;> rfl)) (by decide) rfl) ?_))))))));rintro _ rfl;refine zG (_::_::_::_::C) rfl (zA R4 (zA R4 (zN (zR ?_))));cases h;exact ⟨rfl, _, rfl, [_, _, _], ⟨⟨_, rfl, LoadR.rows (p := 1) (c := [_, _, _]) rfl ⟨⟨_, rfl, rfl⟩, rfl, by decide⟩ rfl rfl rfl⟩, ⟨rfl, ⟨rfl, trivial⟩⟩⟩, ⟨v55, rfl, (pk [0,98,98,98] rfl)⟩⟩
 refine zC rfl (zU rfl (zV R3 (vW 0 [_,_,_] R5 R4) (TO.fact (rdl_cellS qV M3) (fun qX=>TO.fact (rdl_cellS qU M3) (fun qY=>TO.fact (rdl_cellS qT M3) (fun qAc=>TO.eff0 rfl rfl (Eff.store_row (p := 0) (cv := [_, _, _]) (cells' := [_, _, _]) rfl rfl rfl rfl rfl rfl rfl rfl (by first | rfl | (simp [GS.one, qX.2, qY.2, qAc.2]; done) | (simp [GS.one, qX.2, qY.2, qAc.2]; (repeat' apply And.intro) <;> rfl)) (by decide) rfl) ?_))))));rintro _ rfl;refine zG (_::_::_::C) rfl (zA R4 (zA R4 (zN (zR ?_))));cases h;exact ⟨rfl, _, rfl, [_, _, _], ⟨⟨_, rfl, LoadR.rows (p := 0) (c := [_, _, _]) rfl ⟨⟨_, rfl, rfl⟩, rfl, by decide⟩ rfl rfl rfl⟩, ⟨rfl, ⟨rfl, trivial⟩⟩⟩, ⟨(), rfl, (pk [98,98,98] rfl)⟩⟩
set_option maxRecDepth 10000 in
theorem tf_s9_Astray {k : Nat} (hk : 1 ≤ k) {C : List Thing} {qF : AV} {qG : List Str} {qD : AV} {qC : List qH} {qE : AV} {qB : List qA} (qAa : RdT encStr qF qG) (qAb : RdT qW qD qC) (qZ : RdT qP qE qB) {r : (List Int) × Int} (h : P_s9_Astray qG qC qB = some r) :
  TF (EL k) 25 [.agg [qF, qD, qE]] C (RepF (fun (w : AV) => .tuple [w, iv r.2]) (fun (w : AV) => ownL true w encI r.1 :: C)) := by
 unfold P_s9_Astray at h
 have qV : Rdl C encStr qF qG := RdT.rdl qAa
 have qU : Rdl C qW qD qC := RdT.rdl qAb
 have qT : Rdl C qP qE qB := RdT.rdl qZ;refine TF.enter (fn := Go.Proofs.Tryz.f25) rfl rfl rfl rfl rfl (zU rfl (zQ 3 [_,_,_] R7 (fun b1=>zA R4 (zA R4 (zN (T.scope (zU rfl (zV R3 (vW 0 [_,_,_] R5 R4) ?_))))))));obtain ⟨y13, hr13, h⟩ := andx_some h;refine TO.callT (first := []) (cap := []) (vs := [.agg [qF, qD, qE]]) rfl rfl rfl rfl rfl rfl (orcN rfl) (tf_s9_open aD (Rdl.mono qV M1) (Rdl.mono qU M1) (Rdl.mono qT M1) hr13) ?_;rintro _;refine zG (_::C) rfl (zM R4 (zX R5 (zX R5 (zJ 3 [_,_,_] R7 (fun b4=>TO.fact (rdl_cellS qV M2) (fun qX=>TO.fact (rdl_cellS qU M2) (fun qY=>TO.fact (rdl_cellS qT M2) (fun qAc=>TO.eff0 rfl rfl (Eff.store_row (p := 0) (cv := [_, _, _]) (cells' := [_, _, _]) rfl rfl rfl rfl rfl rfl rfl rfl (by first | rfl | (simp [GS.one, qX.2, qY.2, qAc.2]; done) | (simp [GS.one, qX.2, qY.2, qAc.2]; (repeat' apply And.intro) <;> rfl)) (by decide) rfl) ?_))))))));rintro _ rfl;refine zG (_::_::C) rfl (zA R4 (zN (zS (zU rfl (zM R4 ?_)))));obtain ⟨c17, hc17⟩ := zY (¬ y13 = 0);refine zV R3 (Val.neq hc17 rfl rfl) (zN ?_);obtain ⟨rfl, hc17, h⟩ | ⟨rfl, hc17, h⟩ := zI hc17 h
 ·refine zC rfl (zU rfl (zM R4 (zA R4 (zA R4 (zN (T.nilown (u := encI.u) (zR ?_)))))));cases h;exact ⟨rfl, _, rfl, ⟨nilS, rfl, (pk [0,98,98] rfl)⟩⟩
 refine zD rfl (zK (zU rfl (zA R4 (zN (zS (T.label ?_))))))
 show T _ _ _ _ _ _;apply T.joinA (r := r) (W := AV) (fun j w => ⟨[], [(2, w)], ownL true w encI j :: .row b4 3 [qF, qD, qE] :: C⟩) h
 ·intro j h;refine zU rfl (zF 0 R6 (zF 2 R6 (zL 0 R3 R6 (zV R3 (Val.len_l qT M2 rfl rfl) ?_))));obtain ⟨hk23, h⟩ := chk_some h;refine zV R3 (Val.shl rfl rfl hk23) (zM R4 (zN (zB (T.nilown (u := encI.u) ?_))))
  show T _ _ _ _ _ _;apply T.iter (r := j) (W := AV) (fun j w => ⟨[], [(2, w), (4, .ptr b4 0 3), (5, bv j.1), (23, iv ((shlI 1 (qB.length : Int)))), (24, iv (j.2.1))], ownL true w encI j.2.2 :: .row b4 3 [qF, qD, qE] :: C⟩) (w0 := nilS) h
  ·exact (sb (pk [0,0,98] rfl))
  rintro ⟨found, x24, best⟩ v4 a h;unfold P_s9_Astray_L1 at h;dsimp only at h;dsimp only;refine zU rfl ?_;obtain ⟨c25, hc25⟩ := zY (x24 < (shlI 1 (qB.length : Int)));refine zV R3 (Val.lss hc25 rfl rfl) (zN (zS ?_));obtain ⟨rfl, hc25, h⟩ | ⟨rfl, hc25, h⟩ := zI hc25 h
  ·refine zC rfl (zK ?_)
   show T _ _ _ _ _ _;apply T.joinA (r := a) (W := AV) (fun j w => ⟨[], [(2, w), (4, .ptr b4 0 3), (5, bv j.1), (23, iv ((shlI 1 (qB.length : Int)))), (24, iv (x24))], ownL true w encI j.2 :: .row b4 3 [qF, qD, qE] :: C⟩) h
   ·intro j h;refine zB (zU rfl (zM R4 (zA R4 (zN (zU rfl (zA R4 (zN (zU rfl (zA R4 (zN ?_))))))))))
    show T _ _ _ _ _ _;apply T.join (r := j) (W := AV) (fun j w => ⟨[], [(2, v4), (4, .ptr b4 0 3), (5, bv found), (7, w), (23, iv ((shlI 1 (qB.length : Int)))), (24, iv (x24))], ownL true w encI j :: ownL true v4 encI best :: .row b4 3 [qF, qD, qE] :: C⟩) h
    ·intro j h;refine zU rfl (zF 0 R6 (zF 2 R6 (zL 1 R3 R6 (zV R3 (Val.len_l qT M2 rfl rfl) (zM R4 (zN (zB (T.nilown (u := encI.u) ?_))))))))
     show T _ _ _ _ _ _;apply T.iter (r := j) (W := AV) (fun j w => ⟨[], [(2, v4), (4, .ptr b4 0 3), (5, bv found), (6, iv (x24)), (7, w), (8, iv (j.1)), (23, iv ((shlI 1 (qB.length : Int)))), (24, iv (x24)), (29, qE), (30, iv ((qB.length : Int))), (31, iv (j.2.1))], ownL true w encI j.2.2 :: ownL true v4 encI best :: .row b4 3 [qF, qD, qE] :: C⟩) (w0 := nilS) h
     ·exact (sb .refl)
     rintro ⟨last, x31, l⟩ v5 a h;unfold P_s9_Astray_L2 at h;dsimp only at h;dsimp only;refine zU rfl ?_;obtain ⟨c32, hc32⟩ := zY (x31 < (qB.length : Int));refine zV R3 (Val.lss hc32 rfl rfl) (zN (zS ?_));obtain ⟨rfl, hc32, h⟩ | ⟨rfl, hc32, h⟩ := zI hc32 h
     ·refine zC rfl (zK ?_)
      show T _ _ _ _ _ _;apply T.join (r := a) (W := AV) (fun j w => ⟨[], [(2, v4), (4, .ptr b4 0 3), (5, bv found), (6, iv (x24)), (7, w), (8, iv (j.1)), (23, iv ((shlI 1 (qB.length : Int)))), (24, iv (x24)), (29, qE), (30, iv ((qB.length : Int))), (31, iv (x31))], ownL true w encI j.2 :: ownL true v4 encI best :: .row b4 3 [qF, qD, qE] :: C⟩) h
      ·intro j h;refine zB (zU rfl (zM R4 ?_));obtain ⟨a34, hia34, ea34, h⟩ := el_some h;refine TO.fact (rdl_at qT M3 hia34 ea34) (fun hp=>?_);obtain ⟨pa34, hpa34, hva34⟩ := hp;refine zV R3 (hva34 ⟨rfl, rfl⟩ rfl rfl) (zV R3 (Val.load_es (c := [_, _, _, _, _, _, _]) hpa34 M3 ⟨⟨_, rfl, rfl⟩, rfl, by decide⟩ rfl rfl rfl) (zJ 7 [_,_,_,_,_,_,_] R7 (fun b10=>zA R4 (TO.eff0 rfl rfl (Eff.store_row (p := 0) (cv := [_, _, _, _, _, _, _]) (cells' := [_, _, _, _, _, _, _]) rfl rfl rfl rfl rfl rfl rfl rfl aG (by decide) rfl) ?_))));rintro _ rfl;refine zG (_::_::_::_::C) rfl (zN (zB (zU rfl (zM R4 (zM R4 ?_)))));obtain ⟨hk40, h⟩ := chk_some h;refine zV R3 (Val.shr rfl rfl hk40) (zV R3 (Val.and rfl rfl) ?_);obtain ⟨c42, hc42⟩ := zY ((andI (shrI x24 x31) 1) = 1);refine zV R3 (Val.eql hc42 rfl rfl) (zA R4 (zN ?_));obtain ⟨rfl, hc42, h⟩ | ⟨rfl, hc42, h⟩ := zI hc42 h
       ·refine zC rfl (zT rfl (zM R4 (zM R4 (TO.build1 (en := encI) (a := x31) rfl rfl rfl ⟨rfl, rfl⟩ ⟨_, rfl, rfl⟩ (by decide) (by decide) rfl rfl (fun v45=>?_)))));obtain ⟨hk46, h⟩ := chk_some h;refine TO.eff rfl rfl rfl (Eff.append_own (b := 8) (en := encI) (l := l) (l2 := [x31]) (p := 2) (q := 0) ⟨rfl, rfl, rfl, ⟨_, rfl, rfl⟩, by decide, by decide⟩ rfl rfl rfl rfl rfl rfl (flat_ones _) (by decide) hk46) ?_;rintro v46 _ rfl;refine zG (_::_::_::_::_::C) rfl (zA R4 (zN ?_));cases h;exact ⟨rfl, v46, (sb (pk [2,2,2,98,98] rfl))⟩
       refine zD rfl ?_
       show T _ _ _ _ _ _;apply T.joinA (r := j) (W := Unit) (fun j w => ⟨[], [(2, v4), (4, .ptr b4 0 3), (5, bv found), (6, iv (x24)), (7, v5), (9, iv (x31)), (23, iv ((shlI 1 (qB.length : Int)))), (24, iv (x24)), (29, qE), (30, iv ((qB.length : Int))), (31, iv (x31)), (47, bv j)], .row b10 7 [iv (a34.qR), iv (a34.qS), sv a34.qQ, iv (a34.wide), iv (a34.high), iv (a34.heavy), iv (a34.shelf)] :: ownL true v5 encI l :: ownL true v4 encI best :: .row b4 3 [qF, qD, qE] :: C⟩) h
       ·intro j h;refine T.drawE (l1 := [0, 1, 2, 3, 4, 5, 6, 7, 8, 9, 10, 11]) (l2 := [12, 13, 14, 15]) (by kernel_rfl) (by kernel_rfl) (yL R4 (Val.move rfl) ?_);obtain ⟨c49, hc49⟩ := zY (last ≥ 0);refine yL R4 (Val.geq hc49 rfl rfl) (yL R4 (Val.move rfl) ?_);obtain ⟨rfl, hc49, h⟩ | ⟨rfl, hc49, h⟩ := zI hc49 h
        ·refine yL R4 (Val.faddr_ptr (fo := 0) rfl rfl rfl) (yL R4 (Val.faddr_ptr (fo := 2) rfl rfl rfl) (yR R4 (vR (p := 3) R6) (yL R4 (Val.move rfl) ?_)));obtain ⟨a55, hia55, ea55, h⟩ := el_some h;refine TD1.fact (rdl_at qT M4 hia55 ea55) (fun hp=>?_);obtain ⟨pa55, hpa55, hva55⟩ := hp;refine yL R4 (hva55 ⟨rfl, rfl⟩ rfl rfl) (yL R4 (Val.faddr_e (fo := 0) hpa55 rfl rfl rfl) (yR R4 (Val.load_es (c := [_, _, _]) (PtE.add hpa55 (by decide)) M4 ⟨⟨_, rfl, rfl⟩, rfl, by decide⟩ rfl rfl rfl) (yL R4 (Val.faddr_ptr (fo := 0) rfl rfl rfl) (yR R4 (vW 0 [_,_,_] R5 R4) (TD1.over (fun v => sameC_refl v) (all_cons (⟨_, rfl, (vW 0 [_,_,_] R5 R4)⟩) (all_cons (⟨_, rfl, (Val.load_es (c := [_, _, _]) (PtE.add hpa55 (by decide)) M4 ⟨⟨_, rfl, rfl⟩, rfl, by decide⟩ rfl rfl rfl)⟩) (all_cons (⟨_, rfl, (vR (p := 3) R6)⟩) all_nil))) ?_)))));obtain ⟨y60, hr60, h⟩ := andx_some h;refine TD2.heavy (fun v => sameC_refl v) rfl (by decide) rfl rfl (OpS.callV rfl rfl rfl rfl (orcN rfl) (RepF.conv (tf_s9_compare aD hr60))) ?_;rintro _ hs_ ⟨_, rfl, he_⟩;subst hs_;refine ⟨(all_cons (.inl (by kernel_rfl)) (all_cons (.inl (by kernel_rfl)) (all_cons (.inl (by kernel_rfl)) all_nil))), all_nil, ?_⟩;refine yG (_::_::_::_::C) rfl ?_;obtain ⟨c61, hc61⟩ := zY (y60 > 0);refine yM R4 (Val.gtr hc61 rfl rfl) (yM R4 (Val.pick rfl rfl rfl) (yM R4 (Val.assign rfl) (TD2.nil ?_)));subst hc61;cases h;exact ⟨rfl, (), (sb .refl)⟩
        refine TD1.off rfl rfl rfl (TD1.off rfl rfl rfl (TD1.off rfl rfl rfl (TD1.off rfl rfl rfl (TD1.off rfl rfl rfl (TD1.off rfl rfl rfl (TD1.off rfl rfl rfl (TD1.off rfl rfl rfl (TD1.off rfl rfl rfl (TD1.over (fun v => sameC_refl v) all_nil (TD2.off rfl rfl rfl (TD2.off rfl rfl rfl (yM R4 (Val.pick rfl rfl rfl) (yM R4 (Val.assign rfl) (TD2.nil ?_))))))))))))));cases h;exact ⟨rfl, (), (sb .refl)⟩
       ·rintro x47 _ h;obtain ⟨rfl, h⟩ | ⟨rfl, h⟩ := zZ h
        ·refine zC rfl (zE ?_);cases h;exact ⟨ex_ne, ⟨ex_ne, ⟨ex_ne, ⟨rfl, v4, (sb (pk [2,2,98,98] rfl))⟩⟩⟩⟩
        refine zD rfl (zT rfl (zM R4 (zA R4 (zN ?_))));cases h;exact ⟨rfl, v5, (sb (pk [1,1,1,98] rfl))⟩
      ·rintro ⟨last_2, l_2⟩ v5_2 h;dsimp only at h;dsimp only;refine zT rfl ?_;obtain ⟨hk63, h⟩ := chk_some h;refine zV R3 (Val.add rfl rfl hk63) (zM R4 (zN ?_));cases h;exact ⟨rfl, v5_2, (sb .refl)⟩
     refine zD rfl (zE ?_);cases h;exact ⟨ex_ne, ⟨rfl, v5, (sb .refl)⟩⟩
    ·rintro l v5 h
     show T _ _ _ _ _ _;apply T.joinA (r := j) (W := Unit) (fun j w => ⟨[], [(2, v4), (4, .ptr b4 0 3), (5, bv j.1), (7, v5), (23, iv ((shlI 1 (qB.length : Int)))), (24, iv (x24)), (85, bv j.2)], ownL true v5 encI l :: ownL true v4 encI best :: .row b4 3 [qF, qD, qE] :: C⟩) h
     ·intro j h;refine zT rfl (zM R4 (zV R3 (Val.not rfl) (zM R4 ?_)));obtain ⟨rfl, h⟩ | ⟨rfl, h⟩ := zZ h
      ·refine zM R4 (zV R3 (Val.len_own (p := 0) rfl rfl rfl) (zM R4 (zV R3 (Val.len_own (p := 1) rfl rfl rfl) ?_)));obtain ⟨c71, hc71⟩ := zY ((l.length : Int) < (best.length : Int));refine zV R3 (Val.lss hc71 rfl rfl) (zP R6 (zM R4 ?_));obtain ⟨rfl, hc71, h⟩ | ⟨rfl, hc71, h⟩ := zI hc71 h
       ·refine zO R3 (zO R3 (zO R3 (zO R3 (zO R3 (zO R3 (zO R3 (zO R3 (zO R3 (zO R3 (zO R3 (zP R6 (zN ?_))))))))))));cases h;exact ⟨rfl, (), (sb .refl)⟩
       refine zM R4 (zV R3 (Val.len_own (p := 0) rfl rfl rfl) (zM R4 (zV R3 (Val.len_own (p := 1) rfl rfl rfl) ?_)));obtain ⟨c78, hc78⟩ := zY ((l.length : Int) = (best.length : Int));refine zV R3 (Val.eql hc78 rfl rfl) (zM R4 ?_);obtain ⟨rfl, hc78, h⟩ | ⟨rfl, hc78, h⟩ := zI hc78 h
       ·refine zM R4 (zM R4 ?_);refine TO.callJ (W := Unit) (fun (j : Int) (w : Unit) => iv (j)) (fun (j : Int) (w : Unit) => ownL true v5 encI l :: ownL true v4 encI best :: .row b4 3 [qF, qD, qE] :: C) h rfl rfl rfl rfl rfl rfl (orcN rfl) ?_ ?_
        ·intro j h;refine TF.enter (fn := Go.Proofs.Tryz.f93) rfl rfl rfl rfl rfl (zU rfl (zA R4 (zN ?_)))
         show T _ _ _ _ _ _;apply T.join (r := j) (W := Unit) (fun j w => ⟨[], [(0, v5), (1, v4)], ownL true v5 encI l :: ownL true v4 encI best :: .row b4 3 [qF, qD, qE] :: C⟩) h
         ·intro j h;refine zU rfl (zM R4 (zV R3 (Val.len_own (p := 0) rfl rfl rfl) (zM R4 (zN (zB ?_)))))
          show T _ _ _ _ _ _;apply T.iter (r := j) (W := Unit) (fun j w => ⟨[], [(0, v5), (1, v4), (9, v5), (10, iv ((l.length : Int))), (11, iv (j))], ownL true v5 encI l :: ownL true v4 encI best :: .row b4 3 [qF, qD, qE] :: C⟩) (w0 := ()) h
          ·exact (sb .refl)
          rintro x11 _ a h;unfold P_s9_Astray_L3 at h;refine zU rfl ?_;obtain ⟨c12, hc12⟩ := zY (x11 < (l.length : Int));refine zV R3 (Val.lss hc12 rfl rfl) (zN (zS ?_));obtain ⟨rfl, hc12, h⟩ | ⟨rfl, hc12, h⟩ := zI hc12 h
          ·refine zC rfl (zK (zS (zB (zU rfl (zM R4 ?_)))));obtain ⟨a14, hia14, ea14, h⟩ := el_some h;refine TO.fact (own_at (en := encI) (p := 0) rfl hia14) (fun hp=>?_);obtain ⟨ida14, ata14⟩ := hp;refine zV R3 (Val.iaddr_at (en := encI) ata14 ⟨rfl, rfl⟩ rfl rfl hia14) (zV R3 (Val.load_ownL (en := encI) (p := 0) (j := 0) rfl ata14 ⟨_, rfl, rfl⟩ rfl ea14 rfl) (zA R4 (zA R4 (zN (zS (zU rfl (zM R4 (zM R4 (zV R3 (Val.len_own (p := 1) rfl rfl rfl) ?_)))))))));obtain ⟨c19, hc19⟩ := zY (x11 ≥ (best.length : Int));refine zV R3 (Val.geq hc19 rfl rfl) (zN ?_);obtain ⟨rfl, hc19, h⟩ | ⟨rfl, hc19, h⟩ := zI hc19 h
           ·refine zC rfl (zU rfl (zA R4 (zN (zR ?_))));cases h;exact ⟨ret_ne, ⟨ret_ne, ⟨rfl, _, rfl, ⟨(), rfl, .refl⟩⟩⟩⟩
           refine zD rfl (zK (zU rfl (zM R4 (zM R4 ?_))));obtain ⟨a22, hia22, ea22, h⟩ := el_some h;refine TO.fact (own_at (en := encI) (p := 1) rfl hia22) (fun hp=>?_);obtain ⟨ida22, ata22⟩ := hp;refine zV R3 (Val.iaddr_at (en := encI) ata22 ⟨rfl, rfl⟩ rfl rfl hia22) (zV R3 (Val.load_ownL (en := encI) (p := 1) (j := 0) rfl ata22 ⟨_, rfl, rfl⟩ rfl ea22 rfl) (zA R4 (zN (zU rfl (zM R4 (zM R4 ?_))))));obtain ⟨y26, hr26, h⟩ := andx_some h;refine TO.callT (first := []) (cap := []) (vs := [iv (a14), iv (a22)]) rfl rfl rfl rfl rfl rfl (orcN rfl) (tf_cmpInt aD hr26) ?_;rintro _;refine zG (_::_::_::C) rfl (zA R4 (zN (zU rfl (zM R4 ?_))));obtain ⟨c28, hc28⟩ := zY (¬ y26 = 0);refine zV R3 (Val.neq hc28 rfl rfl) (zN ?_);obtain ⟨rfl, hc28, h⟩ | ⟨rfl, hc28, h⟩ := zI hc28 h
           ·refine zC rfl (zU rfl (zM R4 (zA R4 (zN (zR ?_)))));cases h;exact ⟨ret_ne, ⟨ret_ne, ⟨rfl, _, rfl, ⟨(), rfl, .refl⟩⟩⟩⟩
           refine zD rfl (zK (zT rfl ?_));obtain ⟨hk30, h⟩ := chk_some h;refine zV R3 (Val.add rfl rfl hk30) (zM R4 (zN ?_));cases h;exact ⟨rfl, (), (sb .refl)⟩
          refine zD rfl (zE ?_);cases h;exact ⟨ex_ne, ⟨rfl, (), (sb .refl)⟩⟩
         ·rintro _ _ h;refine zS (zU rfl (zM R4 (zV R3 (Val.len_own (p := 0) rfl rfl rfl) (zM R4 (zV R3 (Val.len_own (p := 1) rfl rfl rfl) ?_)))));obtain ⟨c35, hc35⟩ := zY ((l.length : Int) < (best.length : Int));refine zV R3 (Val.lss hc35 rfl rfl) (zN ?_);obtain ⟨rfl, hc35, h⟩ | ⟨rfl, hc35, h⟩ := zI hc35 h
          ·refine zC rfl (zU rfl (zA R4 (zN (zR ?_))));cases h;exact ⟨rfl, _, rfl, ⟨(), rfl, .refl⟩⟩
          refine zD rfl (zK (zU rfl (zA R4 (zN (zR ?_)))));cases h;exact ⟨rfl, _, rfl, ⟨(), rfl, .refl⟩⟩
        ·rintro y82 _ h;refine zG (_::_::_::C) rfl ?_;obtain ⟨c83, hc83⟩ := zY (y82 < 0);refine zV R3 (Val.lss hc83 rfl rfl) (zP R6 (zP R6 (zN ?_)));subst hc83;cases h;exact ⟨rfl, (), (sb .refl)⟩
       refine zO R3 (zO R3 (zO R3 (zO R3 (zP R6 (zP R6 (zN ?_))))));cases h;exact ⟨rfl, (), (sb .refl)⟩
      refine zO R3 (zO R3 (zO R3 (zO R3 (zO R3 (zP R6 (zM R4 (zO R3 (zO R3 (zO R3 (zO R3 (zO R3 (zO R3 (zO R3 (zO R3 (zO R3 (zO R3 (zO R3 (zP R6 (zN ?_)))))))))))))))))));cases h;exact ⟨rfl, (), (sb .refl)⟩
     ·rintro ⟨found_2, x85⟩ _ h;dsimp only at h;dsimp only;obtain ⟨rfl, h⟩ | ⟨rfl, h⟩ := zZ h
      ·refine zC rfl (zT rfl (zM R4 (zA R4 (zA R4 (zN ?_)))));cases h;exact ⟨rfl, v5, (sb (pk [0,1,98] rfl))⟩
      refine zD rfl (zK ?_);cases h;exact ⟨rfl, v4, (sb (pk [1,1,98] rfl))⟩
   ·rintro ⟨found_2, best_2⟩ v4_2 h;dsimp only at h;dsimp only;refine zT rfl ?_;obtain ⟨hk87, h⟩ := chk_some h;refine zV R3 (Val.add rfl rfl hk87) (zM R4 (zN ?_));cases h;exact ⟨rfl, v4_2, (sb .refl)⟩
  refine zD rfl (zE ?_);cases h;exact ⟨ex_ne, ⟨rfl, v4, (sb .refl)⟩⟩
 ·rintro best v4 h;refine zU rfl (zM R4 (zA R4 (zA R4 (zN (zR ?_)))));cases h;exact ⟨rfl, _, rfl, ⟨v4, rfl, (pk [0,98] rfl)⟩⟩
theorem w_s9_Astray (qG : GS encStr) (qC : GS qW) (qB : GS qP) (r : (List Int) × Int) (h : P_s9_Astray qG.l qC.l qB.l = some r) : Comes (EL 1) 25 [.agg [qG.v, qC.v, qB.v]] (.tuple [(GSo true encI r.1).v, iv r.2]) :=
 TF.run (tf_s9_Astray (Nat.le_refl _) (RdT.gs qG) (RdT.gs qC) (RdT.gs qB) h) fun w => (.tuple (.cons (.ownL (en := encI) (p := 0) rfl (.lits encI_lits)) (.cons .lit .nil)))
end Go.Am.YtiaolgbmbhldgaaGreatDoor
end
section
namespace Go.Am
open Go.RowKit
set_option linter.unusedVariables false
set_option linter.unusedSimpArgs false
abbrev K3 := Int × Int × Int
def keyV (k : K3) : Value := .agg #[.int .i64 k.1, .int .i64 k.2.1, .int .i64 k.2.2]
def keyA (k : K3) : AV := .agg [iv k.1, iv k.2.1, iv k.2.2]
def KTrip (v : Value) : Prop := ∃ k : K3, v = keyV k
theorem keyV_inj {k k' : K3} (h : keyV k = keyV k') : k = k' := by
 obtain ⟨a, b, c⟩ := k;obtain ⟨a', b', c'⟩ := k';simp [keyV] at h;obtain ⟨h1, h2, h3⟩ := h;subst h1; subst h2; subst h3; rfl
theorem keyA_toV {k : K3} : toV 4 (keyA k) = .ok (keyV k) := rfl
theorem findAsking_trip {P : Program} {kt : TypeId} {k : K3} (heq : ∀ k' : K3, pureVal P (Op.equal kt (keyV k) (keyV k')) = some (decide (k = k'))) : ∀ (es : List MapEntry) (i : Nat), (∀ e ∈ es, KTrip e.key) →
  pureVal P (Instr.findAsking kt (keyV k) es i) = some (findIx (keyV k) es i) := by
 intro es
 induction es with
 | nil => intro i _; rfl
 | cons e es ih =>
  intro i h;obtain ⟨k', hm⟩ := h e (by simp)
  have ih' := ih (i + 1) fun e he => h e (by simp [he])
  unfold Instr.findAsking findIx;rw [hm, pv_bind, heq k', Option.bind_some]
  by_cases hk : k = k'
  ·subst hk;simp [pureVal, pv_pure]
  ·have h2 : ¬ keyV k' = keyV k := fun e => hk (keyV_inj e).symm
   rw [decide_eq_false hk, if_neg h2];exact ih'
theorem keyTrip {P : Program} {kt : TypeId} {fs : Array Field} (hu : pureVal P (underlying kt) = some (.struct fs)) (hc : ∀ (k : K3) e, pureVal P (Instr.checkKey e 10000 kt (keyV k)) = some ())
  (heq : ∀ k k' : K3, pureVal P (Op.equal kt (keyV k) (keyV k')) = some (decide (k = k'))) : KeyG P kt KTrip := by
 rintro _ ⟨k, rfl⟩;refine ⟨fun e => hc k e, by unfold keyV; rw [show (10000 : Nat) = 9999 + 1 from rfl]; simp [Instr.sameBits], fun es hes => ?_⟩;unfold Instr.findKey;rw [pv_bind, hu, Option.bind_some];cases es with
 | nil => rfl
 | cons e es =>
  obtain ⟨k', hm⟩ := hes e (by simp)
  have h1 : Instr.findNow (.struct fs) (keyV k) (e :: es) 0 = none := by
   unfold Instr.findNow;rw [hm];rfl
  rw [h1];exact findAsking_trip (heq k) _ 0 hes
def entM : List (K3 × AV) → Nat → List (Value × AV × Nat)
 | [], _ => []
 | e :: r, i => (keyV e.1, e.2, i) :: entM r (i + 1)
def mget : List (K3 × AV) → K3 → Option AV
 | [], _ => none
 | e :: r, k => if e.1 = k then some e.2 else mget r k
def mput : List (K3 × AV) → K3 → AV → List (K3 × AV)
 | [], k, v => [(k, v)]
 | e :: r, k, v => if e.1 = k then (k, v) :: r else e :: mput r k v
theorem mget_mput {k q : K3} {v : AV} : ∀ m : List (K3 × AV), mget (mput m k v) q = if q = k then some v else mget m q
 | [] => by
  unfold mput mget
  by_cases h : q = k
  ·rw [if_pos h.symm, if_pos h]
  ·rw [if_neg fun e => h e.symm, if_neg h]; rfl
 | e :: r => by
  have ih := mget_mput (k := k) (q := q) (v := v) r;unfold mput
  by_cases h : e.1 = k
  ·rw [if_pos h];unfold mget
   by_cases hq : q = k
   ·rw [if_pos hq.symm, if_pos hq]
   ·rw [if_neg fun e => hq e.symm, if_neg hq, if_neg fun e' => hq (e'.symm.trans h)]
  ·rw [if_neg h];unfold mget
   by_cases hq : e.1 = q
   ·rw [if_pos hq, if_neg fun e' => h (hq.trans e'), if_pos hq]
   ·rw [if_neg hq, ih, if_neg hq]
theorem entM_keys : ∀ (m : List (K3 × AV)) (i : Nat), ∀ e ∈ keysOf (entM m i), KTrip e.key
 | [], _, _, h => by simp [keysOf, entM] at h
 | x :: r, i, e, h => by
  simp only [entM, keysOf, List.map_cons, List.mem_cons] at h
  rcases h with rfl | h
  ·exact ⟨x.1, rfl⟩
  ·exact entM_keys r (i + 1) e h
theorem entM_find {k : K3} : ∀ (m : List (K3 × AV)) (b i : Nat), (∃ j e, findIx (keyV k) (keysOf (entM m b)) i = some (i + j, undef) ∧ (entM m b)[j]? = some e ∧ e.1 = keyV k ∧ mget m k = some e.2.1 ∧ ∀ v, setAt (entM m b) j (keyV k, v, e.2.2) = entM (mput m k v) b ∧ (mput m k v).length = m.length) ∨
  (findIx (keyV k) (keysOf (entM m b)) i = none ∧ mget m k = none ∧ ∀ v, entM m b ++ [(keyV k, v, b + m.length)] = entM (mput m k v) b ∧ (mput m k v).length = m.length + 1)
 | [], b, i => .inr ⟨rfl, rfl, fun v => ⟨rfl, rfl⟩⟩
 | x :: r, b, i => by
  simp only [entM, keysOf, List.map_cons, findIx, mget, mput]
  by_cases hx : x.1 = k
  ·refine .inl ⟨0, _, ?_, rfl, by rw [hx], by rw [if_pos hx], fun v => ⟨by rw [if_pos hx]; rfl, by rw [if_pos hx]; rfl⟩⟩;rw [if_pos (by rw [hx])]; rfl
  ·have hne : ¬ keyV x.1 = keyV k := fun e => hx (keyV_inj e)
   rw [if_neg hne]
   rcases entM_find r (b + 1) (i + 1) with ⟨j, e, h1, h2, h3, h4, h5⟩ | ⟨h1, h2, h3⟩
   ·exact .inl ⟨j + 1, e, by rw [show i + (j + 1) = i + 1 + j by omega]; exact h1, by simpa using h2, h3, by rw [if_neg hx]; exact h4, fun v => ⟨by rw [if_neg hx]; exact congrArg (List.cons _) (h5 v).1, by rw [if_neg hx]; exact congrArg (· + 1) (h5 v).2⟩⟩
   ·refine .inr ⟨h1, by rw [if_neg hx]; exact h2, fun v => ⟨?_, by rw [if_neg hx]; exact congrArg (· + 1) (h3 v).2⟩⟩;rw [if_neg hx]
    have := (h3 v).1;rw [show b + 1 + r.length = b + (r.length + 1) by omega] at this;exact congrArg (List.cons _) this
theorem entM_at {E : Env} {kt : TypeId} (hK : KeyG E.P kt KTrip) {k : K3} (m : List (K3 × AV)) (em : Bool) :
  (∃ j e, findAt E kt (keyV k) (entM m 0) em = .ok (some j) ∧ (entM m 0)[j]? = some e ∧ e.1 = keyV k ∧ mget m k = some e.2.1 ∧ ∀ v, setAt (entM m 0) j (keyV k, v, e.2.2) = entM (mput m k v) 0 ∧ (mput m k v).length = m.length) ∨
  (findAt E kt (keyV k) (entM m 0) em = .ok none ∧ mget m k = none ∧ ∀ v, entM m 0 ++ [(keyV k, v, m.length)] = entM (mput m k v) 0 ∧ (mput m k v).length = m.length + 1) := by
 obtain ⟨h1, h2, h3⟩ := hK _ ⟨k, rfl⟩
 have h4 := h3 (keysOf (entM m 0)) (entM_keys m 0);unfold findAt;rw [h1 em];simp only [ofOpt, Except.bind, h4]
 rcases entM_find (k := k) m 0 0 with ⟨j, e, k1, k2, k3, k4, k5⟩ | ⟨k1, k2, k3⟩
 ·exact .inl ⟨j, e, by rw [k1]; simp, k2, k3, k4, k5⟩
 ·exact .inr ⟨by rw [k1]; rfl, k2, fun v => by simpa using k3 v⟩
def memT (id : Nat) (m : List (K3 × AV)) : Thing := .obj id (.map (entM m 0) m.length)
section
variable {E : Env} {d : Bool} {n : Nat} {rnd : Option Nat} {ops : Array Oper} {i : Nat} {ns : List Nat} {ms : List Dfr} {σ : Sl} {hs hs' : List Thing} {Q : Sy → Prop} {t : Tmp} {op : Op} {ty : TypeId} {pos : String} {af : Array Edge} {g : Option (Nat × Bool)}
theorem Val.lookup3 {mt kt et p id : Nat} {x y : Operand} {m : List (K3 × AV)} {k : K3} {z : Value} {w : AV} {b : Bool} (hp : hs[p]? = some (memT id m)) (ht : E.und mt = some (.map kt et)) (hK : KeyG E.P kt KTrip) (hz : E.zro et = some z) (hx : evs σ x = some (.map id)) (hy : evs σ y = some (keyA k))
  (hw : (mget m k = some w ∧ b = true) ∨ (mget m k = none ∧ w = ofV 4 z ∧ b = false)) : Val E σ hs (.lookup mt x y true) (.tuple [w, bv b]) := fun ev S he hS o ho => by
 have h1 : S.heap.get id = some (.map (entM m 0) m.length) := hS.ok _ (List.mem_of_getElem? hp);unfold aop; rw [ho];simp only [he _ _ hx, he _ _ hy, alookup, ht, ofOpt, Except.bind, entriesOf, mapOf, h1, keyA_toV]
 rcases entM_at hK (k := k) m (entM m 0).isEmpty with ⟨j, e, k1, k2, k3, k4, k5⟩ | ⟨k1, k2, k3⟩
 ·rcases hw with ⟨w1, rfl⟩ | ⟨w1, _, _⟩
  ·rw [k4] at w1; cases w1;simp only [k1, k2, cond_true];rfl
  ·rw [k4] at w1; cases w1
 ·rcases hw with ⟨w1, _⟩ | ⟨w1, rfl, rfl⟩
  ·rw [k2] at w1; cases w1
  ·simp only [k1, hz, cond_true];rfl
theorem Eff.update3 {mt kt et p id : Nat} {x y z : Operand} {m : List (K3 × AV)} {k : K3} {w : AV} (hp : hs[p]? = some (memT id m)) (ht : E.und mt = some (.map kt et)) (hK : KeyG E.P kt KTrip) (hx : evs σ x = some (.map id)) (hy : evs σ y = some (keyA k))
  (hv : evs σ z = some w) : Eff E σ hs (.mapUpdate mt x y z) fun _ hs' => hs' = hs.set p (memT id (mput m k w)) := fun ev S he hS o ho => by
 have h1 : S.heap.get id = some (.map (entM m 0) m.length) := hS.ok _ (List.mem_of_getElem? hp)
 have hb := (hK _ ⟨k, rfl⟩).2.1
 have fin : ∀ c, c = (mput m k w).length → HasS (S.write id (.map (entM (mput m k w) 0) c)) (hs.set p (memT id (mput m k w))) := fun c hc => by
  subst hc;exact hS.writeAt hp (y := memT id (mput m k w)) (i := id) rfl rfl (show (S.write id _).heap.get id = _ by rw [write_get, if_pos rfl])
 rcases entM_at hK (k := k) m false with ⟨j, e, k1, k2, k3, k4, k5⟩ | ⟨k1, k2, k3⟩
 ·refine ⟨undefA, S.write id (.map (entM (mput m k w) 0) m.length), _, ?_, fin _ (k5 w).2.symm, rfl⟩;unfold aop; rw [ho];simp only [he _ _ hx, he _ _ hy, he _ _ hv, aupdate, ht, ofOpt, Except.bind, mapOf, h1, keyA_toV, k1, k2, k3, hb, cond_true];rw [(k5 w).1];rfl
 ·refine ⟨undefA, S.write id (.map (entM (mput m k w) 0) (m.length + 1)), _, ?_, fin _ (k3 w).2.symm, rfl⟩;unfold aop; rw [ho];simp only [he _ _ hx, he _ _ hy, he _ _ hv, aupdate, ht, ofOpt, Except.bind, mapOf, h1, keyA_toV, k1];rw [(k3 w).1];rfl
theorem TO.makeMap3 {mt : Nat} (ho : ops[i]? = some ⟨some t, .makeMap mt none, ty, pos, af, g⟩) (hd : Nat.blt t n = true) (hw : wantS ops σ g = some true)
  (c : ∀ id, TO E false n rnd ops ns ⟨ms, (t, .map id) :: σ, memT id [] :: hs⟩ Q) : TO E false n rnd ops (i :: ns) ⟨ms, σ, hs⟩ Q := by
 refine TO.eff (K := fun v hs' => ∃ id, v = .map id ∧ hs' = memT id [] :: hs) ho hd hw (fun ev S he hS o ho => ?_) (fun v hs' ⟨id, h1, h2⟩ => by subst h1; subst h2; exact c id);refine ⟨_, S.new (.map [] 0), _, ?_, hS.new _ (x := memT S.next []) (show (S.new _).heap.get S.next = _ by rw [St.new_get, if_pos rfl]; rfl) (fun i hi => by cases hi; rfl), S.next, rfl, rfl⟩;unfold aop; rw [ho];rfl
end
end Go.Am
end
section
namespace Go.Am
open Go.RowKit
set_option linter.unusedVariables false
set_option linter.unusedSimpArgs false
def restC (m : Int) (l : List Int) : List AV := iv m :: l.map fun x => iv x
theorem restC_len {m : Int} {l : List Int} {k : Nat} (h : l.length = k) : (restC m l).length = k + 1 := by simp [restC, h]
theorem restC_ones (m : Int) (l : List Int) : (restC m l).all oneCell = true := by
 simp [restC]
section
variable {E : Env} {σ : Sl} {hs hs' : List Thing} {bt : TypeId} {x y : Operand} {p id u k m : Nat} {n a : Int} {l l' : List Int}
theorem Val.load_rest (hp : hs[p]? = some (.row id u (restC n l))) (hl : l.length = k) (ht : Aggr E bt (k + 1)) (hx : evs σ x = some (.ptr id 0 (k + 1))) : Val E σ hs (.load bt x) (.agg (restC n l)) :=
 Val.load_rows hp ht hx (restC_len hl) (by rw [List.drop_zero, List.take_of_length_le (by rw [restC_len hl]; exact Nat.le_refl _)]) (Nat.ble_eq_true_of_le (by omega))
theorem Val.load_rest0 (hp : hs[p]? = some (.row id u (restC n l))) (hl : l.length = k) (ht : Scalar E bt) (hx : evs σ x = some (.ptr id 0 (k + 1))) : Val E σ hs (.load bt x) (iv n) :=
 Val.load_row hp ht hx (restC_len hl) rfl
theorem Val.load_restA (hp : hs[p]? = some (.row id u (restC n l))) (hl : l.length = k) (ht : Aggr E bt k) (hx : evs σ x = some (.ptr id 1 (k + 1))) : Val E σ hs (.load bt x) (.agg (l.map fun x => iv x)) :=
  Val.load_rows hp ht hx (restC_len hl) (by
    show (l.map fun x => iv x).take k = _
    rw [List.take_of_length_le (by rw [List.length_map, hl]; exact Nat.le_refl _)]) (Nat.ble_eq_true_of_le (by omega))
theorem Eff.store_rest {cells : List AV} {n' : Int} (hp : hs[p]? = some (.row id u cells)) (hc : cells.length = k + 1) (hl : l'.length = k) (ht : E.siz bt = some (k + 1)) (hx : evs σ x = some (.ptr id 0 (k + 1))) (hy : evs σ y = some (.agg (restC n' l'))) :
    Eff E σ hs (.store bt x y) fun _ hs' => hs' = hs.set p (.row id u (restC n' l')) :=
  Eff.store_row (cv := restC n' l') (cells' := restC n' l') hp ht hx hc hy rfl (by rw [restC_len hl]; exact Nat.beq_refl _) rfl (restC_ones _ _) (by omega) (by
    unfold spliceL
    rw [List.take_zero, List.nil_append, Nat.zero_add, List.drop_of_length_le (by rw [restC_len hl, hc]; exact Nat.le_refl _), List.append_nil])
theorem Eff.store_rest0 {n' : Int} (hp : hs[p]? = some (.row id u (restC n l))) (hl : l.length = k) (ht : E.siz bt = some 1) (hx : evs σ x = some (.ptr id 0 (k + 1))) (hy : evs σ y = some (iv n')) :
  Eff E σ hs (.store bt x y) fun _ hs' => hs' = hs.set p (.row id u (restC n' l)) :=
 Eff.store_row (cells' := restC n' l) hp ht hx (restC_len hl) hy rfl rfl rfl rfl (by omega) rfl
theorem splice_at {c : List AV} {i : Nat} {v : AV} (h : i < c.length) : spliceL c i [v] = c.set i v := by
 unfold spliceL;rw [List.set_eq_take_append_cons_drop, if_pos h];simp
theorem Eff.store_restAt {i : Int} (hp : hs[p]? = some (.row id u (restC n l))) (hl : l.length = k) (hi : 0 ≤ i ∧ i < k) (ht : E.siz bt = some 1) (hx : evs σ x = some (.ptr id (1 + i.toNat * 1) (k + 1))) (hy : evs σ y = some (iv a)) :
    Eff E σ hs (.store bt x y) fun _ hs' => hs' = hs.set p (.row id u (restC n (l.set i.toNat a))) :=
  Eff.store_row (cells' := restC n (l.set i.toNat a)) hp ht hx (restC_len hl) hy rfl rfl rfl rfl (by omega) (by
    show spliceL (restC n l) _ [iv a] = _
    rw [splice_at (by rw [restC_len hl]; omega), Nat.mul_one, Nat.add_comm]
    unfold restC
    rw [List.set_cons_succ, List.map_set])
end
end Go.Am
end
section
namespace Go.Am
theorem T.seqJoin {E : Env} {n : Nat} {rnd : Option Nat} {s s1 : Sy} {Q : Exit → Sy → Prop} {x y : Code} (h1 : T E n rnd x s fun e s' => e = .normal ∧ Sub s1 s') (h2 : T E n rnd y s1 Q) : T E n rnd (.seq x y) s Q :=
 .seq (h1.mono fun e s' ⟨he, hs⟩ => by subst he; exact T.keep hs h2)
end Go.Am
end
section
namespace Go.Am
open Go.RowKit
set_option linter.unusedVariables false
set_option linter.unusedSimpArgs false
def nelV (ws : List AV) (i : Nat) : AV := ws.getD i nilS
def nelL {α : Type} (ls : List (List α)) (i : Nat) : List α := ls.getD i []
theorem nel_end {ws : List AV} {k : Nat} (h : ws.length = k) : nelV ws k = nilS := by
 subst h;unfold nelV;rw [List.getD_eq_getElem?_getD, List.getElem?_eq_none (Nat.le_refl _)];rfl
theorem nelV_at {ws : List AV} {i : Nat} (h : i < ws.length) : ws[i]? = some (nelV ws i) := by
 unfold nelV;rw [List.getD_eq_getElem?_getD, List.getElem?_eq_getElem h];rfl
theorem nelL_at {α : Type} {ls : List (List α)} {i : Nat} (h : i < ls.length) : ls[i]? = some (nelL ls i) := by
 unfold nelL;rw [List.getD_eq_getElem?_getD, List.getElem?_eq_getElem h];rfl
theorem nelL_end {α : Type} {ls : List (List α)} {i : Nat} (h : ls.length ≤ i) : nelL ls i = [] := by
 unfold nelL;rw [List.getD_eq_getElem?_getD, List.getElem?_eq_none h];rfl
theorem nelL_of {α : Type} {ls : List (List α)} {i : Nat} {l : List α} (h : ls[i]? = some l) : nelL ls i = l := by
 unfold nelL;rw [List.getD_eq_getElem?_getD, h];rfl
section
variable {E : Env} {hs hs' C : List Thing}
theorem Rdl.nel {α : Type} {en : En α} {ws : List AV} {ls : List (List α)} (h : ws.length = ls.length) (i : Nat) : Rdl (seg en ws ls ++ C) en (nelV ws i) (nelL ls i) := by
 by_cases hi : i < ls.length
 ·exact .inr ⟨true, List.mem_append_left _ (seg_mem (nelV_at (by omega)) (nelL_at hi))⟩
 ·rw [nelL_end (by omega)]
  have : nelV ws i = nilS := by
   unfold nelV;rw [List.getD_eq_getElem?_getD, List.getElem?_eq_none (by omega)];rfl
  rw [this];exact .nil
theorem nel_at {α : Type} {p : Nat} {z : Bool} {v : AV} {ls : List (List α)} {ws : List AV} {k : Int} (hp : hs[p]? = some (nestH z v ls ws)) (hk : 0 ≤ k ∧ k < ls.length) :
  ∀ S, HasS S hs → ∃ id, (∃ ex, v = .slice id 0 ws.length ex ls.length ls.length) ∧ ws[k.toNat]? = some (nelV ws k.toNat) := fun S hS => by
 have hlen := nest_len hp S hS
 rcases hS.own hp with ⟨h0, h1, h2, h3⟩ | ⟨id, ex, h1, h2, h3, h4⟩
 ·omega
 ·exact ⟨id, ⟨ex, h1⟩, nelV_at (by omega)⟩
theorem Less.segBack (A S B : List Thing) {C : List Thing} : Less (A ++ (B ++ (S ++ C))) (A ++ (S ++ (B ++ C))) := by
 refine .perm (List.Perm.append_left A ?_);rw [← List.append_assoc, ← List.append_assoc];exact List.Perm.append_right C List.perm_append_comm
theorem Less.nel {α : Type} {en : En α} {ws : List AV} {ls : List (List α)} (A : List Thing) (h : ws.length = ls.length) (i : Nat) : Less (ownL true (nelV ws i) en (nelL ls i) :: (A ++ C)) (A ++ (seg en ws ls ++ C)) := fun S k => by
 have hsub : (A ++ C).Sublist (A ++ (seg en ws ls ++ C)) := List.Sublist.append_left (List.sublist_append_right _ _) _
 by_cases hi : i < ls.length
 ·have hg : (seg en ws ls)[i]? = some (ownL true (nelV ws i) en (nelL ls i)) := by
   unfold seg;rw [List.getElem?_zipWith, nelV_at (by omega), nelL_at hi]
  have hp := (pick_perm (ownL true (nelV ws i) en (nelL ls i)) hg).1
  have h1 : (A ++ (seg en ws ls ++ C)).Perm (ownL true (nelV ws i) en (nelL ls i) :: (A ++ ((seg en ws ls).eraseIdx i ++ C))) := by
   refine (List.Perm.append_left A (List.Perm.append_right C hp)).trans ?_;exact List.perm_middle
  exact (k.perm h1.symm).sub (.cons_cons _ (List.Sublist.append_left (List.sublist_append_right _ _) _))
 ·rw [nelL_end (by omega)]
  have : nelV ws i = nilS := by
   unfold nelV;rw [List.getD_eq_getElem?_getD, List.getElem?_eq_none (by omega)];rfl
  rw [this];exact (k.sub hsub).nilown
end
end Go.Am
end
section
namespace Go.Am
set_option linter.unusedVariables false
noncomputable def P_r1_Lists_L2 (first : Int) (y27 : List (List Int)) : (Int × (List (List Int))) → Option (Stp (Int × (List (List Int))) (List (List Int))) := fun (i, out_2) =>
  if i < (y27.length : Int) then
    el y27 i fun a39 =>
    chk ([first].length + a39.length < 1000000000) (
      chk (out_2.length + [[first] ++ a39].length < 1000000000) (
        chk (I64 (i + 1)) (
          some (Stp.ag ((i + 1), out_2 ++ [[first] ++ a39])))))
  else
    some (Stp.dn out_2)
noncomputable def P_r1_Lists_L1 (below : Int) (many : Int) (slf : Int → Int → Int → Option ((List (List Int)) × Bool)) : (Int × (List (List Int))) → Option (Stp (Int × (List (List Int))) (List (List Int))) := fun (first, out) =>
  chk (I64 (first + many)) (
    if (first + many) ≤ below then
      andx (
        chk (I64 (first + 1)) (
          chk (I64 (many - 1)) (
            andx (slf (first + 1) below (many - 1)) fun (y27, y27_2) =>
              iter (P_r1_Lists_L2 first y27) (0, out)))) fun out_2 =>
        chk (I64 (first + 1)) (
          some (Stp.ag ((first + 1), out_2)))
    else
      some (Stp.dn out))
noncomputable def P_r1_Lists_B (slf : Int → Int → Int → Option ((List (List Int)) × Bool)) (from_ : Int) (below : Int) (many : Int) : Option ((List (List Int)) × Bool) :=
  if many ≤ 0 then
    some ([([] : List Int)], false)
  else
    andx (
      iter (P_r1_Lists_L1 below many slf) (from_, ([] : List (List Int)))) fun out =>
      some (out, true)
noncomputable def P_r1_Lists_N : Nat → Int → Int → Int → Option ((List (List Int)) × Bool)
 | 0 => fun _ _ _ => none
 | n + 1 => P_r1_Lists_B (P_r1_Lists_N n)
noncomputable def P_r1_Lists (from_ : Int) (below : Int) (many : Int) : Option ((List (List Int)) × Bool) := P_r1_Lists_N 100 from_ below many
noncomputable def P_r9_rising_L1 (begin : List Int) (many : Int) (shelves : Int) (slf : (List Int) → Int → Int → Option ((List (List Int)) × Bool)) : (Int × (List (List Int))) → Option (Stp (Int × (List (List Int))) (List (List Int))) := fun (s, out) =>
  if s < shelves then
    chk (([] : List Int).length + begin.length < 1000000000) (
      chk ((([] : List Int) ++ begin).length + [s].length < 1000000000) (
        andx (slf ((([] : List Int) ++ begin) ++ [s]) many shelves) fun (y40, y40_2) =>
          chk (out.length + y40.length < 1000000000) (
            chk (I64 (s + 1)) (
              some (Stp.ag ((s + 1), out ++ y40))))))
  else
    some (Stp.dn out)
noncomputable def P_r9_rising_B (slf : (List Int) → Int → Int → Option ((List (List Int)) × Bool)) (begin : List Int) (many : Int) (shelves : Int) : Option ((List (List Int)) × Bool) :=
  if (begin.length : Int) = many then
    some ([begin], false)
  else
    andx (
      if (begin.length : Int) > 0 then
        chk (I64 ((begin.length : Int) - 1)) (
          el begin ((begin.length : Int) - 1) fun a23 =>
          some a23)
      else
        some 0) fun low =>
      andx (
        iter (P_r9_rising_L1 begin many shelves slf) (low, ([] : List (List Int)))) fun out =>
        some (out, true)
noncomputable def P_r9_rising_N : Nat → (List Int) → Int → Int → Option ((List (List Int)) × Bool)
 | 0 => fun _ _ _ => none
 | n + 1 => P_r9_rising_B (P_r9_rising_N n)
noncomputable def P_r9_rising (begin : List Int) (many : Int) (shelves : Int) : Option ((List (List Int)) × Bool) := P_r9_rising_N 100 begin many shelves
noncomputable def P_r9_Fewest_L1 (qG : List Str) (qC : List qH) (qB : List qA) (books : List qA) (but : Int) (clear : Int) (y22 : List (List Int)) : (Nat × Int × Bool × Int) → Option (Stp (Nat × Int × Bool × Int) (Nat × Int × Bool)) := fun (best, least, found, i) =>
  if i < (y22.length : Int) then
    andx (
      seqx (
        andx (
          chk (0 ≤ i ∧ i < (y22.length : Int)) (
            andx (P_w1_Has (nelL y22 i.toNat) clear) fun y34 =>
              if y34 = true then
                some true
              else
                chk (0 ≤ i ∧ i < (y22.length : Int)) (
                  andx (P_r9_Arranged qG qC qB books (nelL y22 i.toNat)) fun y42 =>
                    some (!y42)))) fun x44 =>
          if x44 = true then
            some (Ex.rt (best, least, found))
          else
            some (Ex.nx ())) fun _ =>
        chk (0 ≤ i ∧ i < (y22.length : Int)) (
          andx (P_r9_Moved books (nelL y22 i.toNat) but) fun y51 =>
            andx (
              if found = true then
                some (true, decide (y51 < least))
              else
                some (false, true)) fun (found_2, x58) =>
              if x58 = true then
                chk (0 ≤ i ∧ i < (y22.length : Int)) (
                  some (i.toNat, y51, true))
              else
                some (best, least, found_2))) fun (best_2, least_2, found_2) =>
      chk (I64 (i + 1)) (
        some (Stp.ag (best_2, least_2, found_2, (i + 1))))
  else
    some (Stp.dn (best, least, found))
noncomputable def P_r9_Fewest (qG : List Str) (qC : List qH) (qB : List qA) (books : List qA) (but : Int) (clear : Int) : Option ((List Int) × Int × Bool) :=
  andx (P_r9_rising [] (books.length : Int) (qC.length : Int)) fun (y22, y22_2) =>
    andx (
      iter (P_r9_Fewest_L1 qG qC qB books but clear y22) ((List.length y22), 0, false, 0)) fun (best, least, found) =>
      some (nelL y22 best, least, found)
noncomputable def P_r9_Astray_L2 (qB : List qA) (y30 : List (List Int)) : Int → Option (Stp Int (Ex Unit (Stp Int (Ex Unit ((List Int) × Int))))) := fun i =>
  if i < (y30.length : Int) then
    chk (0 ≤ i ∧ i < (y30.length : Int)) (
      andx (P_r9_Less qB (nelL y30 i.toNat)) fun y43 =>
        andx (P_r9_Ordered y43) fun y44 =>
          if y44 = true then
            chk (0 ≤ i ∧ i < (y30.length : Int)) (
              some (Stp.dn (Ex.rt (Stp.dn (Ex.rt (nelL y30 i.toNat, 0))))))
          else
            chk (I64 (i + 1)) (
              some (Stp.ag (i + 1))))
  else
    some (Stp.dn (Ex.nx ()))
noncomputable def P_r9_Astray_L1 (qB : List qA) : Int → Option (Stp Int (Ex Unit ((List Int) × Int))) := fun many =>
  if many ≤ (qB.length : Int) then
    seqx (
      andx (P_r1_Lists 0 (qB.length : Int) many) fun (y30, y30_2) =>
        iter (P_r9_Astray_L2 qB y30) 0) fun _ =>
      chk (I64 (many + 1)) (
        some (Stp.ag (many + 1)))
  else
    some (Stp.dn (Ex.nx ()))
noncomputable def P_r9_Astray (qG : List Str) (qC : List qH) (qB : List qA) : Option ((List Int) × Int) :=
  andx (P_r9_Check qG qC qB) fun (y12, y12_2, y12_3) =>
    if ¬ y12_3 = 0 then
      some ([], y12_3)
    else
      seqx (
        iter (P_r9_Astray_L1 qB) 0) fun _ =>
        some ([], 0)
noncomputable def P_r9_Put (qG : List Str) (qC : List qH) (qB : List qA) (qK : Int) (qL : Int) (qM : Str) (qJ : Int) (qI : Int) (qN : Int) (qO : Int) : Option (Int × Int × (List Int) × Int) :=
  andx (P_r9_Further qG qC qB qK qL qM qJ qI qN qO) fun y16 =>
    andx (
      andx (
        if y16 = 0 then
          some (decide ((qB.length : Int) = 10))
        else
          some false) fun x24 =>
        if x24 = true then
          some 3
        else
          some y16) fun e =>
      if ¬ e = 0 then
        some (0, 0, [], e)
      else
        andx (P_r9_With qB (⟨qK, qL, qM, qJ, qI, qN, qO⟩ : qA)) fun (y32, y32_2) =>
          andx (P_r9_Fewest qG qC qB y32 y32_2 (-1)) fun (y39, y39_2, y39_3) =>
            if y39_3 = true then
              some (y32_2, y39_2, y39, 0)
            else
              some (0, 0, [], 9)
end Go.Am
end
section
namespace Go.Am.YtiaolgbmbhldgaaGreatDoor
open Go.Am Go.RowKit
set_option linter.unusedVariables false
set_option linter.unusedSimpArgs false
set_option maxRecDepth 10000 in
theorem tf_r1_Lists_N {k : Nat} (hk : 0 ≤ k) : ∀ (fuel : Nat) {C : List Thing} {from_ : Int} {below : Int} {many : Int} {r : (List (List Int)) × Bool} (h : P_r1_Lists_N fuel from_ below many = some r),
  TF (EL k) 94 [iv (from_), iv (below), iv (many)] C (RepF (fun (w : AV × (List AV)) => w.1) (fun (w : AV × (List AV)) => nestH r.2 w.1 r.1 w.2 :: (seg encI w.2 r.1 ++ C))) := by
 intro fuel
 induction fuel with
 | zero => intro C from_ below many r h; cases h
 | succ fuel ih =>
 intro C from_ below many r h
 change P_r1_Lists_B (P_r1_Lists_N fuel) from_ below many = some r at h
 unfold P_r1_Lists_B at h;refine TF.enter (fn := Go.Proofs.Tryz.f94) rfl rfl rfl rfl rfl (zU rfl (zA R4 (zN (zS (zU rfl (zM R4 ?_))))));obtain ⟨c12, hc12⟩ := zY (many ≤ 0);refine zV R3 (Val.leq hc12 rfl rfl) (zN ?_);obtain ⟨rfl, hc12, h⟩ | ⟨rfl, hc12, h⟩ := zI hc12 h
 ·refine zC rfl (zU rfl (TO.nilown (u := encI.u) (TO.fact (own_cellS (p := 0) rfl) (fun hot1=>TO.eff rfl rfl rfl (Eff.new (New.buildSlice (en := encAV) (l := [nilS]) (vs := [(_, _)]) (ws := [(_, [_])]) ⟨rfl, rfl⟩ rfl rfl rfl rfl (CellsL.cons hot1.1 CellsL.nil) rfl rfl)) ?_))));rintro _ _ ⟨v13_2, rfl, rfl⟩;refine TO.less (Less.rowOwn (en := encAV) (l := [nilS]) (p := 0) rfl) (zG (_::_::C) rfl (TO.less (Pk.less (Pk.pick (p := 0) rfl (Pk.pick (p := 0) rfl Pk.refl))) (zG (_::(seg encI [nilS] [([] : List Int)] ++ C)) rfl (zA R4 (zN (zR ?_))))));cases h;exact ⟨rfl, _, rfl, ⟨((.slice v13_2 0 (List.flatMap encAV.f [nilS]).length true (List.length [nilS]) (List.length [nilS])), [nilS]), rfl, .refl⟩⟩
 refine zD rfl (zK (zU rfl (zA R4 (zN ?_))))
 show T _ _ _ _ _ _;apply T.joinA (r := r) (W := AV × (List AV)) (fun j w => ⟨[], [(7, w.1)], nestH true w.1 j w.2 :: (seg encI w.2 j ++ C)⟩) h
 ·intro j h;refine zU rfl (zM R4 (zA R4 (zN (zB (T.nilown (u := 1) (T.things (hs' := nestH true nilS ([] : List (List Int)) [] :: (seg encI [] ([] : List (List Int)) ++ C)) rfl ?_))))))
  show T _ _ _ _ _ _;apply T.iter (r := j) (W := AV × (List AV)) (fun j w => ⟨[], [(1, iv (below)), (2, iv (many)), (7, w.1), (8, iv (j.1))], nestH true w.1 j.2 w.2 :: (seg encI w.2 j.2 ++ C)⟩) (w0 := (nilS, [])) h
  ·exact (sb .refl)
  rintro ⟨first, out⟩ ⟨vn4, wsn4⟩ a h;unfold P_r1_Lists_L1 at h;dsimp only at h;dsimp only;refine zS (zU rfl (zM R4 (zM R4 ?_)));obtain ⟨hk17, h⟩ := chk_some h;refine zV R3 (Val.add rfl rfl hk17) (zM R4 ?_);obtain ⟨c19, hc19⟩ := zY ((first + many) ≤ below);refine zV R3 (Val.leq hc19 rfl rfl) (zN ?_);obtain ⟨rfl, hc19, h⟩ | ⟨rfl, hc19, h⟩ := zI hc19 h
  ·refine zC rfl (zK ?_)
   show T _ _ _ _ _ _;apply T.joinA (r := a) (W := AV × (List AV)) (fun j w => ⟨[], [(1, iv (below)), (2, iv (many)), (7, w.1), (8, iv (first))], nestH true w.1 j w.2 :: (seg encI w.2 j ++ C)⟩) h
   ·intro j h;refine zB (zU rfl (zM R4 ?_));obtain ⟨hk23, h⟩ := chk_some h;refine zV R3 (Val.add rfl rfl hk23) (zM R4 (zM R4 ?_));obtain ⟨hk26, h⟩ := chk_some h;refine zV R3 (Val.sub rfl rfl hk26) ?_;obtain ⟨⟨y27, y27_2⟩, hr27, h⟩ := andx_some h;dsimp only at h;refine TO.callT (first := []) (cap := []) (vs := [iv ((first + 1)), iv (below), iv ((many - 1))]) rfl rfl rfl rfl rfl rfl (orcN rfl) (ih hr27) ?_;rintro ⟨w27, w27_2⟩;refine zG ([nestH y27_2 w27 y27 w27_2] ++ (seg encI w27_2 y27 ++ ([nestH true vn4 out wsn4] ++ (seg encI wsn4 out ++ C)))) rfl (TO.less (Less.segBack [nestH y27_2 w27 y27 w27_2] (seg encI w27_2 y27) [nestH true vn4 out wsn4]) (zG (_::_::(seg encI w27_2 y27 ++ (seg encI wsn4 out ++ C))) rfl (zA R4 (zN (zU rfl (zA R4 (zN (zB ?_))))))))
    show T _ _ _ _ _ _;apply T.iter (r := j) (W := AV × (List AV)) (fun j w => ⟨[], [(1, iv (below)), (2, iv (many)), (7, w.1), (8, iv (first)), (9, w27), (10, iv (j.1))], nestH y27_2 w27 y27 w27_2 :: nestH true w.1 j.2 w.2 :: (seg encI w27_2 y27 ++ (seg encI w.2 j.2 ++ C))⟩) (w0 := (vn4, wsn4)) h
    ·exact (sb .refl)
    rintro ⟨i, out_2⟩ ⟨vn4_2, wsn4_2⟩ a h;unfold P_r1_Lists_L2 at h;dsimp only at h;dsimp only;refine zS (zU rfl (zM R4 (zM R4 (zV R3 (Val.len_nest (p := 0) rfl rfl rfl) ?_))));obtain ⟨c31, hc31⟩ := zY (i < (y27.length : Int));refine zV R3 (Val.lss hc31 rfl rfl) (zN ?_);obtain ⟨rfl, hc31, h⟩ | ⟨rfl, hc31, h⟩ := zI hc31 h
    ·refine zC rfl (zK (zS (zB (zT rfl (zM R4 (zM R4 (TO.build1 (en := encI) (a := first) rfl rfl rfl ⟨rfl, rfl⟩ ⟨_, rfl, rfl⟩ (by decide) (by decide) rfl rfl (fun v36=>zM R4 (zM R4 ?_)))))))));obtain ⟨a39, hia39, ea39, h⟩ := el_some h;refine TO.fact (nest_at (en := encI) (p := 1) rfl hia39 ea39) (fun hp=>?_);obtain ⟨ida39, wa39, ata39, ewa39, hma39⟩ := hp;refine zV R3 (Val.iaddr_nest ata39 ⟨rfl, rfl⟩ rfl rfl hia39) (zV R3 (Val.load_nest (p := 1) rfl ata39 ⟨_, rfl, rfl⟩ rfl ewa39) ?_)
     have hna39 : Rdl (seg encI w27_2 y27 ++ (seg encI wsn4_2 out_2 ++ C)) encI wa39 a39 := .inr ⟨true, (List.mem_append_left _ hma39)⟩;obtain ⟨hk41, h⟩ := chk_some h;refine TO.eff rfl rfl rfl (Eff.append_l (b := 8) (en := encI) (l := [first]) (p := 0) ⟨rfl, rfl, rfl, ⟨_, rfl, rfl⟩, by decide, by decide⟩ rfl rfl rfl hna39 M3 rfl rfl (flat_ones _) (by decide) hk41) ?_;rintro v41 _ rfl;refine zG (_::_::_::(seg encI w27_2 y27 ++ (seg encI wsn4_2 out_2 ++ C))) rfl (TO.less (Less.ownTrue (p := 0) rfl (.inr (by simp))) (zG (_::_::_::(seg encI w27_2 y27 ++ (seg encI wsn4_2 out_2 ++ C))) rfl (TO.fact (own_cellS (p := 0) rfl) (fun hot6=>TO.eff rfl rfl rfl (Eff.new (New.buildSlice (en := encAV) (l := [v41]) (vs := [(_, _)]) (ws := [(_, [_])]) ⟨rfl, rfl⟩ rfl rfl rfl rfl (CellsL.cons hot6.1 CellsL.nil) rfl rfl)) ?_))));rintro _ _ ⟨v42_2, rfl, rfl⟩;refine TO.less (Less.rowOwn (en := encAV) (l := [v41]) (p := 0) rfl) (zG (_::_::_::_::(seg encI w27_2 y27 ++ (seg encI wsn4_2 out_2 ++ C))) rfl (TO.less (Pk.less (Pk.pick (p := 0) rfl (Pk.pick (p := 1) rfl (Pk.pick (p := 1) rfl (Pk.pick (p := 0) rfl Pk.refl))))) (zG (_::_::_::(seg encI [v41] [[first] ++ a39] ++ (seg encI w27_2 y27 ++ (seg encI wsn4_2 out_2 ++ C)))) rfl ?_)));obtain ⟨hk43, h⟩ := chk_some h;refine TO.fact (nest_len (p := 2) rfl) (fun hl43=>TO.fact (nest_len (p := 0) rfl) (fun hm43=>TO.eff rfl rfl rfl (Eff.append_nest (b := 24) (ls := out_2) (ls2 := [[first] ++ a39]) (p := 2) (q := 0) ⟨rfl, rfl, rfl, ⟨_, rfl, rfl⟩, by decide, by decide⟩ rfl rfl rfl rfl rfl rfl (seg_ones (en := encI) hm43 (fun x hx => M3 x (List.mem_append_left _ hx))) (by decide) hk43) ?_));rintro v43 _ rfl;refine zG ([nestH false (.slice v42_2 0 (List.flatMap encAV.f [v41]).length true (List.length [v41]) (List.length [v41])) [[first] ++ a39] [v41], nestH y27_2 w27 y27 w27_2, nestH true v43 (out_2 ++ [[first] ++ a39]) (wsn4_2 ++ [v41])] ++ (seg encI [v41] [[first] ++ a39] ++ (seg encI w27_2 y27 ++ (seg encI wsn4_2 out_2 ++ C)))) rfl (TO.less (Less.cat2 [nestH false (.slice v42_2 0 (List.flatMap encAV.f [v41]).length true (List.length [v41]) (List.length [v41])) [[first] ++ a39] [v41], nestH y27_2 w27 y27 w27_2, nestH true v43 (out_2 ++ [[first] ++ a39]) (wsn4_2 ++ [v41])] (B := seg encI w27_2 y27) hl43) (zG (_::_::_::(seg encI w27_2 y27 ++ (seg encI (wsn4_2 ++ [v41]) (out_2 ++ [[first] ++ a39]) ++ C))) rfl (zA R4 (zN (zT rfl (zM R4 ?_))))));obtain ⟨hk33, h⟩ := chk_some h;refine zV R3 (Val.add rfl rfl hk33) (zA R4 (zN ?_));cases h;exact ⟨rfl, (v43, wsn4_2 ++ [v41]), (sb (pk [1,1,98] rfl))⟩
    refine zD rfl (zE ?_);cases h;exact ⟨ex_ne, ⟨rfl, (vn4_2, wsn4_2), (sb (.pick (p := 1) rfl (.drop (.dropA (.consA .refl)))))⟩⟩
   ·rintro out_2 ⟨vn4_2, wsn4_2⟩ h;dsimp only;refine zT rfl (zM R4 ?_);obtain ⟨hk21, h⟩ := chk_some h;refine zV R3 (Val.add rfl rfl hk21) (zA R4 (zN ?_));cases h;exact ⟨rfl, (vn4_2, wsn4_2), (sb .refl)⟩
  refine zD rfl (zE ?_);cases h;exact ⟨ex_ne, ⟨rfl, (vn4, wsn4), (sb .refl)⟩⟩
 ·rintro out ⟨vn4, wsn4⟩ h;dsimp only;refine zU rfl (zM R4 (zA R4 (zN (zR ?_))));cases h;exact ⟨rfl, _, rfl, ⟨(vn4, wsn4), rfl, .refl⟩⟩
theorem tf_r1_Lists {k : Nat} (hk : 0 ≤ k) {C : List Thing} {from_ : Int} {below : Int} {many : Int} {r : (List (List Int)) × Bool} (h : P_r1_Lists from_ below many = some r) :
  TF (EL k) 94 [iv (from_), iv (below), iv (many)] C (RepF (fun (w : AV × (List AV)) => w.1) (fun (w : AV × (List AV)) => nestH r.2 w.1 r.1 w.2 :: (seg encI w.2 r.1 ++ C))) := tf_r1_Lists_N hk _ h
set_option maxRecDepth 10000 in
theorem tf_r9_rising_N {k : Nat} (hk : 0 ≤ k) : ∀ (fuel : Nat) {C : List Thing} {v_begin : AV} {begin : List Int} {many : Int} {shelves : Int} {r : (List (List Int)) × Bool} (h : P_r9_rising_N fuel begin many shelves = some r),
  TF (EL k) 133 [v_begin, iv (many), iv (shelves)] (ownL true v_begin encI begin :: C) (RepF (fun (w : AV × (List AV)) => w.1) (fun (w : AV × (List AV)) => nestH r.2 w.1 r.1 w.2 :: (seg encI w.2 r.1 ++ C))) := by
 intro fuel
 induction fuel with
 | zero => intro C v_begin begin many shelves r h; cases h
 | succ fuel ih =>
 intro C v_begin begin many shelves r h
 change P_r9_rising_B (P_r9_rising_N fuel) begin many shelves = some r at h
 unfold P_r9_rising_B at h;refine TF.enter (fn := Go.Proofs.Tryz.f133) rfl rfl rfl rfl rfl (zU rfl (zA R4 (zN (zS (zU rfl (zM R4 (zV R3 (Val.len_own (p := 0) rfl rfl rfl) (zM R4 ?_))))))));obtain ⟨c13, hc13⟩ := zY ((begin.length : Int) = many);refine zV R3 (Val.eql hc13 rfl rfl) (zN ?_);obtain ⟨rfl, hc13, h⟩ | ⟨rfl, hc13, h⟩ := zI hc13 h
 ·refine zC rfl (zU rfl (zM R4 (TO.fact (own_cellS (p := 0) rfl) (fun hot1=>TO.eff rfl rfl rfl (Eff.new (New.buildSlice (en := encAV) (l := [v_begin]) (vs := [(_, _)]) (ws := [(_, [_])]) ⟨rfl, rfl⟩ rfl rfl rfl rfl (CellsL.cons hot1.1 CellsL.nil) rfl rfl)) ?_))));rintro _ _ ⟨v15_2, rfl, rfl⟩;refine TO.less (Less.rowOwn (en := encAV) (l := [v_begin]) (p := 0) rfl) (zG (_::_::C) rfl (TO.less (Pk.less (Pk.pick (p := 0) rfl (Pk.pick (p := 0) rfl Pk.refl))) (zG (_::(seg encI [v_begin] [begin] ++ C)) rfl (zA R4 (zN (zR ?_))))));cases h;exact ⟨rfl, _, rfl, ⟨((.slice v15_2 0 (List.flatMap encAV.f [v_begin]).length true (List.length [v_begin]) (List.length [v_begin])), [v_begin]), rfl, .refl⟩⟩
 refine zD rfl (zK (zU rfl (zA R4 (zN ?_))))
 show T _ _ _ _ _ _;apply T.joinA (r := r) (W := Unit) (fun j w => ⟨[], [(0, v_begin), (1, iv (many)), (2, iv (shelves)), (7, iv (j))], ownL true v_begin encI begin :: C⟩) h
 ·intro j h;refine zU rfl (zM R4 (zV R3 (Val.len_own (p := 0) rfl rfl rfl) ?_));obtain ⟨c18, hc18⟩ := zY ((begin.length : Int) > 0);refine zV R3 (Val.gtr hc18 rfl rfl) (zN ?_);obtain ⟨rfl, hc18, h⟩ | ⟨rfl, hc18, h⟩ := zI hc18 h
  ·refine zC rfl (zT rfl (zM R4 (zM R4 (zV R3 (Val.len_own (p := 0) rfl rfl rfl) ?_))));obtain ⟨hk22, h⟩ := chk_some h;refine zV R3 (Val.sub rfl rfl hk22) ?_;obtain ⟨a23, hia23, ea23, h⟩ := el_some h;refine TO.fact (own_at (en := encI) (p := 0) rfl hia23) (fun hp=>?_);obtain ⟨ida23, ata23⟩ := hp;refine zV R3 (Val.iaddr_at (en := encI) ata23 ⟨rfl, rfl⟩ rfl rfl hia23) (zV R3 (Val.load_ownL (en := encI) (p := 0) (j := 0) rfl ata23 ⟨_, rfl, rfl⟩ rfl ea23 rfl) (zA R4 (zN ?_)));cases h;exact ⟨rfl, (), (sb .refl)⟩
  refine zD rfl (zK ?_);cases h;exact ⟨rfl, (), (sb .refl)⟩
 ·rintro low _ h;refine zU rfl (zA R4 (zN ?_))
  show T _ _ _ _ _ _;apply T.joinA (r := r) (W := AV × (List AV)) (fun j w => ⟨[], [(8, w.1)], nestH true w.1 j w.2 :: ownL true v_begin encI begin :: (seg encI w.2 j ++ C)⟩) h
  ·intro j h;refine zU rfl (zM R4 (zA R4 (zN (zB (T.nilown (u := 1) (T.things (hs' := nestH true nilS ([] : List (List Int)) [] :: ownL true v_begin encI begin :: (seg encI [] ([] : List (List Int)) ++ C)) rfl ?_))))))
   show T _ _ _ _ _ _;apply T.iter (r := j) (W := AV × (List AV)) (fun j w => ⟨[], [(0, v_begin), (1, iv (many)), (2, iv (shelves)), (8, w.1), (9, iv (j.1))], nestH true w.1 j.2 w.2 :: ownL true v_begin encI begin :: (seg encI w.2 j.2 ++ C)⟩) (w0 := (nilS, [])) h
   ·exact (sb .refl)
   rintro ⟨s, out⟩ ⟨vn4, wsn4⟩ a h;unfold P_r9_rising_L1 at h;dsimp only at h;dsimp only;refine zS (zU rfl (zM R4 (zM R4 ?_)));obtain ⟨c28, hc28⟩ := zY (s < shelves);refine zV R3 (Val.lss hc28 rfl rfl) (zN ?_);obtain ⟨rfl, hc28, h⟩ | ⟨rfl, hc28, h⟩ := zI hc28 h
   ·refine zC rfl (zK (zS (zB (zT rfl (zM R4 (TO.build0 (en := encI) rfl rfl rfl ⟨rfl, rfl⟩ (fun v32=>zM R4 ?_)))))));obtain ⟨hk34, h⟩ := chk_some h;refine TO.eff rfl rfl rfl (Eff.append_own (b := 8) (en := encI) (l := ([] : List Int)) (l2 := begin) (p := 0) (q := 2) ⟨rfl, rfl, rfl, ⟨_, rfl, rfl⟩, by decide, by decide⟩ rfl rfl rfl rfl rfl rfl (flat_ones _) (by decide) hk34) ?_;rintro v34 _ rfl;refine zG (_::_::_::(seg encI wsn4 out ++ C)) rfl (zM R4 (TO.build1 (en := encI) (a := s) rfl rfl rfl ⟨rfl, rfl⟩ ⟨_, rfl, rfl⟩ (by decide) (by decide) rfl rfl (fun v36=>?_)));obtain ⟨hk37, h⟩ := chk_some h;refine TO.eff rfl rfl rfl (Eff.append_own (b := 8) (en := encI) (l := (([] : List Int) ++ begin)) (l2 := [s]) (p := 1) (q := 0) ⟨rfl, rfl, rfl, ⟨_, rfl, rfl⟩, by decide, by decide⟩ rfl rfl rfl rfl rfl rfl (flat_ones _) (by decide) hk37) ?_;rintro v37 _ rfl;refine zG (_::_::_::_::(seg encI wsn4 out ++ C)) rfl (zM R4 (zM R4 (TO.less (Less.ownTrue (p := 1) rfl (.inr (by simp))) (zG (_::_::_::_::(seg encI wsn4 out ++ C)) rfl (TO.less (Pk.less (Pk.pick (p := 1) rfl Pk.refl)) (zG (_::_::_::_::(seg encI wsn4 out ++ C)) rfl ?_))))));obtain ⟨⟨y40, y40_2⟩, hr40, h⟩ := andx_some h;dsimp only at h;refine TO.callT (first := []) (cap := []) (vs := [v37, iv (many), iv (shelves)]) rfl rfl rfl rfl rfl rfl (orcN rfl) (ih hr40) ?_;rintro ⟨w40, w40_2⟩;refine zG ([nestH y40_2 w40 y40 w40_2] ++ (seg encI w40_2 y40 ++ ([ownL false v36 encI [s], nestH true vn4 out wsn4, ownL true v_begin encI begin] ++ (seg encI wsn4 out ++ C)))) rfl (TO.less (Less.segBack [nestH y40_2 w40 y40 w40_2] (seg encI w40_2 y40) [ownL false v36 encI [s], nestH true vn4 out wsn4, ownL true v_begin encI begin]) (zG (_::_::_::_::(seg encI w40_2 y40 ++ (seg encI wsn4 out ++ C))) rfl ?_));obtain ⟨hk41, h⟩ := chk_some h;refine TO.fact (nest_len (p := 2) rfl) (fun hl41=>TO.fact (nest_len (p := 0) rfl) (fun hm41=>TO.eff rfl rfl rfl (Eff.append_nest (b := 24) (ls := out) (ls2 := y40) (p := 2) (q := 0) ⟨rfl, rfl, rfl, ⟨_, rfl, rfl⟩, by decide, by decide⟩ rfl rfl rfl rfl rfl rfl (seg_ones (en := encI) hm41 (fun x hx => M4 x (List.mem_append_left _ hx))) (by decide) hk41) ?_));rintro v41 _ rfl;refine zG ([nestH y40_2 w40 y40 w40_2, ownL false v36 encI [s], nestH true v41 (out ++ y40) (wsn4 ++ w40_2), ownL true v_begin encI begin] ++ (seg encI w40_2 y40 ++ (seg encI wsn4 out ++ C))) rfl (TO.less (Less.cat [nestH y40_2 w40 y40 w40_2, ownL false v36 encI [s], nestH true v41 (out ++ y40) (wsn4 ++ w40_2), ownL true v_begin encI begin] hl41) (zG (_::_::_::_::(seg encI (wsn4 ++ w40_2) (out ++ y40) ++ C)) rfl (zA R4 (zN (zT rfl (zM R4 ?_))))));obtain ⟨hk30, h⟩ := chk_some h;refine zV R3 (Val.add rfl rfl hk30) (zA R4 (zN ?_));cases h;exact ⟨rfl, (v41, wsn4 ++ w40_2), (sb (pk [2,2,98,98] rfl))⟩
   refine zD rfl (zE ?_);cases h;exact ⟨ex_ne, ⟨rfl, (vn4, wsn4), (sb .refl)⟩⟩
  ·rintro out ⟨vn4, wsn4⟩ h;dsimp only;refine zU rfl (zM R4 (zA R4 (zN (zR ?_))));cases h;exact ⟨rfl, _, rfl, ⟨(vn4, wsn4), rfl, (pk [0,98] rfl)⟩⟩
theorem tf_r9_rising {k : Nat} (hk : 0 ≤ k) {C : List Thing} {v_begin : AV} {begin : List Int} {many : Int} {shelves : Int} {r : (List (List Int)) × Bool} (h : P_r9_rising begin many shelves = some r) :
  TF (EL k) 133 [v_begin, iv (many), iv (shelves)] (ownL true v_begin encI begin :: C) (RepF (fun (w : AV × (List AV)) => w.1) (fun (w : AV × (List AV)) => nestH r.2 w.1 r.1 w.2 :: (seg encI w.2 r.1 ++ C))) := tf_r9_rising_N hk _ h
set_option maxRecDepth 10000 in
theorem tf_r9_Fewest {k : Nat} (hk : 0 ≤ k) {C : List Thing} {qF : AV} {qG : List Str} {qD : AV} {qC : List qH} {qE : AV} {qB : List qA} {v_books : AV} {books : List qA} {but : Int} {clear : Int} (qV : Rdl C encStr qF qG) (qU : Rdl C qW qD qC) (qT : Rdl C qP qE qB) (h_books : Rdl C qP v_books books) {r : (List Int) × Int × Bool} (h : P_r9_Fewest qG qC qB books but clear = some r) :
  TF (EL k) 102 [.agg [qF, qD, qE], v_books, iv (but), iv (clear)] C (RepF (fun (w : AV) => .tuple [w, iv r.2.1, bv r.2.2]) (fun (w : AV) => ownL true w encI r.1 :: C)) := by
 unfold P_r9_Fewest at h;refine TF.enter (fn := Go.Proofs.Tryz.f102) rfl rfl rfl rfl rfl (zU rfl (zQ 3 [_,_,_] R7 (fun b4=>zA R4 (zA R4 (zA R4 (zN (zU rfl (zM R4 (zV R3 (Val.len_l h_books M1 rfl rfl) (zF 1 R6 (zL 0 R3 R6 (zV R3 (Val.len_l qU M1 rfl rfl) (TO.nilown (u := encI.u) (TO.less (Pk.less (Pk.pick (p := 0) rfl Pk.refl)) (zG (_::_::C) rfl ?_)))))))))))))));obtain ⟨⟨y22, y22_2⟩, hr22, h⟩ := andx_some h;dsimp only at h;refine TO.callT (first := []) (cap := []) (vs := [nilS, iv ((books.length : Int)), iv ((qC.length : Int))]) rfl rfl rfl rfl rfl rfl (orcN rfl) (tf_r9_rising aD hr22) ?_;rintro ⟨w22, w22_2⟩;refine zG ([nestH y22_2 w22 y22 w22_2] ++ (seg encI w22_2 y22 ++ ([.row b4 3 [qF, qD, qE]] ++ C))) rfl (TO.less (Less.segBack [nestH y22_2 w22 y22 w22_2] (seg encI w22_2 y22) [.row b4 3 [qF, qD, qE]]) (zG (_::_::(seg encI w22_2 y22 ++ C)) rfl (zA R4 (zN (zU rfl (zA R4 (zN (zU rfl (zA R4 (zA R4 (zN ?_)))))))))))
 show T _ _ _ _ _ _;apply T.joinA (r := r) (W := Unit) (fun j w => ⟨[], [(12, nelV w22_2 j.1), (13, iv (j.2.1)), (14, bv j.2.2)], nestH y22_2 w22 y22 w22_2 :: .row b4 3 [qF, qD, qE] :: (seg encI w22_2 y22 ++ C)⟩) h
 ·intro j h;refine zU rfl (zA R4 (zN (zB (T.fact (nest_len (p := 0) rfl) (fun hl=>?_)))))
  show T _ _ _ _ _ _;apply T.iter (r := j) (W := Unit) (fun j w => ⟨[], [(1, v_books), (2, iv (but)), (3, iv (clear)), (4, .ptr b4 0 3), (11, w22), (12, nelV w22_2 j.1), (13, iv (j.2.1)), (14, bv j.2.2.1), (15, iv (j.2.2.2))], nestH y22_2 w22 y22 w22_2 :: .row b4 3 [qF, qD, qE] :: (seg encI w22_2 y22 ++ C)⟩) (w0 := ()) h
  ·exact ⟨rfl, (keep_cons rfl (keep_cons rfl (keep_cons rfl (keep_cons rfl (keep_cons rfl (keep_cons (congrArg some (nel_end hl).symm) (keep_cons rfl (keep_cons rfl (keep_cons rfl keep_nil))))))))), .refl⟩
  rintro ⟨best, least, found, i⟩ _ a h;unfold P_r9_Fewest_L1 at h;dsimp only at h;dsimp only;refine zS (zU rfl (zM R4 (zM R4 (zV R3 (Val.len_nest (p := 0) rfl rfl rfl) ?_))));obtain ⟨c26, hc26⟩ := zY (i < (y22.length : Int));refine zV R3 (Val.lss hc26 rfl rfl) (zN ?_);obtain ⟨rfl, hc26, h⟩ | ⟨rfl, hc26, h⟩ := zI hc26 h
  ·refine zC rfl (zK ?_)
   show T _ _ _ _ _ _;apply T.joinA (r := a) (W := Unit) (fun j w => ⟨[], [(1, v_books), (2, iv (but)), (3, iv (clear)), (4, .ptr b4 0 3), (11, w22), (12, nelV w22_2 j.1), (13, iv (j.2.1)), (14, bv j.2.2), (15, iv (i))], nestH y22_2 w22 y22 w22_2 :: .row b4 3 [qF, qD, qE] :: (seg encI w22_2 y22 ++ C)⟩) h
   ·intro j h;refine zB ?_
    show T _ _ _ _ _ _;apply T.join (r := j) (W := Unit) (fun j w => ⟨[], [(1, v_books), (2, iv (but)), (3, iv (clear)), (4, .ptr b4 0 3), (11, w22), (12, nelV w22_2 best), (13, iv (least)), (14, bv found), (15, iv (i))], nestH y22_2 w22 y22 w22_2 :: .row b4 3 [qF, qD, qE] :: (seg encI w22_2 y22 ++ C)⟩) h
    ·intro j h
     show T _ _ _ _ _ _;apply T.joinA (r := j) (W := Unit) (fun j w => ⟨[], [(1, v_books), (2, iv (but)), (3, iv (clear)), (4, .ptr b4 0 3), (11, w22), (12, nelV w22_2 best), (13, iv (least)), (14, bv found), (15, iv (i)), (44, bv j)], nestH y22_2 w22 y22 w22_2 :: .row b4 3 [qF, qD, qE] :: (seg encI w22_2 y22 ++ C)⟩) h
     ·intro j h;refine T.drawE (l1 := [0, 1, 2, 3, 4]) (l2 := [5, 6, 7, 8, 9, 10, 11, 12, 13, 14, 15]) (by kernel_rfl) (by kernel_rfl) (yL R4 (Val.move rfl) (yL R4 (Val.move rfl) ?_));obtain ⟨hk31, h⟩ := chk_some h;refine TD1.fact (nel_at (p := 0) rfl hk31) (fun hp=>?_);obtain ⟨idn31, atn31, ewn31⟩ := hp;refine yL R4 (Val.iaddr_nest atn31 ⟨rfl, rfl⟩ rfl rfl hk31) (yR R4 (Val.load_nest (p := 0) rfl atn31 ⟨_, rfl, rfl⟩ rfl ewn31) (yL R4 (Val.move rfl) (TD1.over (fun v => sameC_refl v) (all_cons (⟨_, rfl, (Val.load_nest (p := 0) rfl atn31 ⟨_, rfl, rfl⟩ rfl ewn31)⟩) all_nil) (TD2.fact (nest_len (p := 0) rfl) (fun hl_2=>?_)))));obtain ⟨y34, hr34, h⟩ := andx_some h;refine TD2.heavy (fun v => sameC_refl v) rfl (by decide) rfl rfl (OpS.callV rfl rfl rfl rfl (orcN rfl) (RepF.conv (tf_w1_Has aD (Rdl.mono (Rdl.nel (C := C) hl_2 i.toNat) M2) hr34))) ?_;rintro _ hs_ ⟨_, rfl, he_⟩;subst hs_;refine ⟨(all_cons (.inl (by kernel_rfl)) all_nil), all_nil, ?_⟩;refine yG (_::_::(seg encI w22_2 y22 ++ C)) rfl (yM R4 (Val.move rfl) ?_);obtain ⟨rfl, h⟩ | ⟨rfl, h⟩ := zZ h
      ·refine TD2.off rfl rfl rfl (TD2.off rfl rfl rfl (TD2.off rfl rfl rfl (TD2.off rfl rfl rfl (TD2.off rfl rfl rfl (TD2.off rfl rfl rfl (TD2.off rfl rfl rfl (TD2.off rfl rfl rfl (yM R4 (Val.pick rfl rfl rfl) (TD2.nil ?_)))))))));cases h;exact ⟨rfl, (), (sb .refl)⟩
      refine TD2.read (fun v => sameC_refl v) rfl rfl rfl rfl (vW 1 [_,_,_] R5 R4) (all_cons (.inl (by kernel_rfl)) all_nil) (yM R4 (Val.move rfl) (yM R4 (Val.move rfl) (yM R4 (Val.move rfl) ?_)));obtain ⟨hk40, h⟩ := chk_some h;refine TD2.fact (nel_at (p := 0) rfl hk40) (fun hp=>?_);obtain ⟨idn40, atn40, ewn40⟩ := hp;refine yM R4 (Val.iaddr_nest atn40 ⟨rfl, rfl⟩ rfl rfl hk40) (TD2.read (fun v => sameC_refl v) rfl rfl rfl rfl (Val.load_nest (p := 0) rfl atn40 ⟨_, rfl, rfl⟩ rfl ewn40) (all_cons (.inl (by kernel_rfl)) all_nil) (TD2.fact (nest_len (p := 0) rfl) (fun hl_3=>?_)));obtain ⟨y42, hr42, h⟩ := andx_some h;refine TD2.heavy (fun v => sameC_refl v) rfl (by decide) rfl rfl (OpS.callV rfl rfl rfl rfl (orcN rfl) (RepF.conv (tf_r9_Arranged aD (Rdl.mono qV (memS (memS (memG mem0)))) (Rdl.mono qU (memS (memS (memG mem0)))) (Rdl.mono qT (memS (memS (memG mem0)))) (Rdl.mono h_books (memS (memS (memG mem0)))) (Rdl.mono (Rdl.nel (C := C) hl_3 i.toNat) M2) hr42))) ?_;rintro _ hs_ ⟨_, rfl, he_⟩;subst hs_;refine ⟨(all_cons (.inl (by kernel_rfl)) (all_cons (.inl (by kernel_rfl)) (all_cons (.inl (by kernel_rfl)) all_nil))), all_nil, ?_⟩;refine yG (_::_::(seg encI w22_2 y22 ++ C)) rfl (yM R4 (Val.not rfl) (yM R4 (Val.pick rfl rfl rfl) (TD2.nil ?_)));cases h;exact ⟨rfl, (), (sb .refl)⟩
     ·rintro x44 _ h;obtain ⟨rfl, h⟩ | ⟨rfl, h⟩ := zZ h
      ·refine zC rfl (zE ?_);cases h;exact ⟨ex_ne, ⟨rfl, (), (sb .refl)⟩⟩
      refine zD rfl (zK ?_);cases h;exact ⟨rfl, (), (sb .refl)⟩
    ·rintro _ _ h;refine zU rfl (zM R4 (zM R4 (zM R4 ?_)));obtain ⟨hk48, h⟩ := chk_some h;refine TO.fact (nel_at (p := 0) rfl hk48) (fun hp=>?_);obtain ⟨idn48, atn48, ewn48⟩ := hp;refine zV R3 (Val.iaddr_nest atn48 ⟨rfl, rfl⟩ rfl rfl hk48) (zV R3 (Val.load_nest (p := 0) rfl atn48 ⟨_, rfl, rfl⟩ rfl ewn48) (zM R4 (TO.fact (nest_len (p := 0) rfl) (fun hl_2=>?_))));obtain ⟨y51, hr51, h⟩ := andx_some h;refine TO.callT (first := []) (cap := []) (vs := [v_books, nelV w22_2 i.toNat, iv (but)]) rfl rfl rfl rfl rfl rfl (orcN rfl) (tf_r9_Moved aD (Rdl.mono h_books (memS (memS (memG mem0)))) (Rdl.mono (Rdl.nel (C := C) hl_2 i.toNat) M2) hr51) ?_;rintro _;refine zG (_::_::(seg encI w22_2 y22 ++ C)) rfl (zA R4 (zN ?_))
     show T _ _ _ _ _ _;apply T.joinA (r := j) (W := Unit) (fun j w => ⟨[], [(1, v_books), (2, iv (but)), (3, iv (clear)), (4, .ptr b4 0 3), (11, w22), (12, nelV w22_2 best), (13, iv (least)), (14, bv j.1), (15, iv (i)), (16, iv (y51)), (58, bv j.2)], nestH y22_2 w22 y22 w22_2 :: .row b4 3 [qF, qD, qE] :: (seg encI w22_2 y22 ++ C)⟩) h
     ·intro j h;refine zT rfl (zM R4 (zV R3 (Val.not rfl) (zM R4 ?_)));obtain ⟨rfl, h⟩ | ⟨rfl, h⟩ := zZ h
      ·refine zM R4 (zM R4 ?_);obtain ⟨c57, hc57⟩ := zY (y51 < least);refine zV R3 (Val.lss hc57 rfl rfl) (zP R6 (zN ?_));subst hc57;cases h;exact ⟨rfl, (), (sb .refl)⟩
      refine zO R3 (zO R3 (zO R3 (zP R6 (zN ?_))));cases h;exact ⟨rfl, (), (sb .refl)⟩
     ·rintro ⟨found_2, x58⟩ _ h;dsimp only at h;dsimp only;obtain ⟨rfl, h⟩ | ⟨rfl, h⟩ := zZ h
      ·refine zC rfl (zT rfl (zM R4 (zM R4 ?_)));obtain ⟨hk61, h⟩ := chk_some h;refine TO.fact (nel_at (p := 0) rfl hk61) (fun hp=>?_);obtain ⟨idn61, atn61, ewn61⟩ := hp;refine zV R3 (Val.iaddr_nest atn61 ⟨rfl, rfl⟩ rfl rfl hk61) (zV R3 (Val.load_nest (p := 0) rfl atn61 ⟨_, rfl, rfl⟩ rfl ewn61) (zM R4 (zA R4 (zA R4 (zA R4 (zN ?_))))));cases h;exact ⟨rfl, (), (sb .refl)⟩
      refine zD rfl (zK ?_);cases h;exact ⟨rfl, (), (sb .refl)⟩
   ·rintro ⟨best_2, least_2, found_2⟩ _ h;dsimp only at h;dsimp only;refine zT rfl (zM R4 ?_);obtain ⟨hk28, h⟩ := chk_some h;refine zV R3 (Val.add rfl rfl hk28) (zA R4 (zN ?_));cases h;exact ⟨rfl, (), (sb .refl)⟩
  refine zD rfl (zE ?_);cases h;exact ⟨ex_ne, ⟨rfl, (), (sb .refl)⟩⟩
 ·rintro ⟨best, least, found⟩ _ h;dsimp only at h;dsimp only;refine zU rfl (zM R4 (zM R4 (zM R4 (zA R4 (zA R4 (zA R4 (zN (T.fact (nest_len (p := 0) rfl) (fun hl=>T.less (Less.nel (en := encI) (C := C) [nestH y22_2 w22 y22 w22_2, .row b4 3 [qF, qD, qE]] hl best) (T.things (hs' := ownL true (nelV w22_2 best) encI (nelL y22 best) :: nestH y22_2 w22 y22 w22_2 :: .row b4 3 [qF, qD, qE] :: C) rfl (zR ?_)))))))))));cases h;exact ⟨rfl, _, rfl, ⟨(nelV w22_2 best), rfl, (pk [0,98,98] rfl)⟩⟩
set_option maxRecDepth 10000 in
theorem tf_r9_Astray {k : Nat} (hk : 1 ≤ k) {C : List Thing} {qF : AV} {qG : List Str} {qD : AV} {qC : List qH} {qE : AV} {qB : List qA} (qAa : RdT encStr qF qG) (qAb : RdT qW qD qC) (qZ : RdT qP qE qB) {r : (List Int) × Int} (h : P_r9_Astray qG qC qB = some r) :
  TF (EL k) 26 [.agg [qF, qD, qE]] C (RepF (fun (w : AV) => .tuple [w, iv r.2]) (fun (w : AV) => ownL true w encI r.1 :: C)) := by
 unfold P_r9_Astray at h
 have qV : Rdl C encStr qF qG := RdT.rdl qAa
 have qU : Rdl C qW qD qC := RdT.rdl qAb
 have qT : Rdl C qP qE qB := RdT.rdl qZ;refine TF.enter (fn := Go.Proofs.Tryz.f26) rfl rfl rfl rfl rfl (zU rfl (zQ 3 [_,_,_] R7 (fun b1=>zA R4 (zA R4 (zN (zU rfl (zV R3 (vW 0 [_,_,_] R5 R4) ?_)))))));obtain ⟨⟨y12, y12_2, y12_3⟩, hr12, h⟩ := andx_some h;dsimp only at h;obtain ⟨g, hgg, hrg⟩ := Rdl.reif (hs := .row b1 3 [qF, qD, qE] :: C) qV M1 (ReifL.flat encStr_tr);obtain ⟨g_2, hgg_2, hrg_2⟩ := Rdl.reif (hs := .row b1 3 [qF, qD, qE] :: C) qU M1 (ReifL.flat qAe);obtain ⟨g_3, hgg_3, hrg_3⟩ := Rdl.reif (hs := .row b1 3 [qF, qD, qE] :: C) qT M1 (ReifL.flat qAd);refine TO.call rfl rfl rfl rfl rfl (orcL rfl aD) (.cons (.agg (.cons (hrg _) (.cons (hrg_2 _) (.cons (hrg_3 _) .nil)))) .nil) (sem_of (w_r9_Check g g_2 g_3 _ (by try rw [hgg]; try rw [hgg_2]; try rw [hgg_3]; exact hr12))) (zM R4 (zX R5 (zX R5 (zX R5 (zA R4 (zA R4 (zA R4 (zN (zS (zU rfl (zM R4 ?_)))))))))));obtain ⟨c17, hc17⟩ := zY (¬ y12_3 = 0);refine zV R3 (Val.neq hc17 rfl rfl) (zN ?_);obtain ⟨rfl, hc17, h⟩ | ⟨rfl, hc17, h⟩ := zI hc17 h
 ·refine zC rfl (zU rfl (zM R4 (zA R4 (zA R4 (zN (T.nilown (u := encI.u) (zR ?_)))))));cases h;exact ⟨rfl, _, rfl, ⟨nilS, rfl, (pk [0,98] rfl)⟩⟩
 refine zD rfl (zK ?_)
 show T _ _ _ _ _ _;apply T.join (r := r) (W := Unit) (fun j w => ⟨[], [], .row b1 3 [qF, qD, qE] :: C⟩) h
 ·intro j h;refine zU rfl (zA R4 (zN (zB ?_)))
  show T _ _ _ _ _ _;apply T.iter (r := j) (W := Unit) (fun j w => ⟨[], [(1, .ptr b1 0 3), (7, iv (j))], .row b1 3 [qF, qD, qE] :: C⟩) (w0 := ()) h
  ·exact (sb .refl)
  rintro many _ a h;unfold P_r9_Astray_L1 at h;refine zS (zU rfl (zM R4 (zF 2 R6 (zL 0 R3 R6 (zV R3 (Val.len_l qT M1 rfl rfl) ?_)))));obtain ⟨c23, hc23⟩ := zY (many ≤ (qB.length : Int));refine zV R3 (Val.leq hc23 rfl rfl) (zN ?_);obtain ⟨rfl, hc23, h⟩ | ⟨rfl, hc23, h⟩ := zI hc23 h
  ·refine zC rfl (zK ?_)
   show T _ _ _ _ _ _;apply T.join (r := a) (W := Unit) (fun j w => ⟨[], [(1, .ptr b1 0 3), (7, iv (many))], .row b1 3 [qF, qD, qE] :: C⟩) h
   ·intro j h;refine zB (zU rfl (zF 2 R6 (zL 0 R3 R6 (zV R3 (Val.len_l qT M1 rfl rfl) (zM R4 ?_)))));obtain ⟨⟨y30, y30_2⟩, hr30, h⟩ := andx_some h;dsimp only at h;refine TO.callT (first := []) (cap := []) (vs := [iv (0), iv ((qB.length : Int)), iv (many)]) rfl rfl rfl rfl rfl rfl (orcN rfl) (tf_r1_Lists aD hr30) ?_;rintro ⟨w30, w30_2⟩;refine zG ([nestH y30_2 w30 y30 w30_2] ++ (seg encI w30_2 y30 ++ ([.row b1 3 [qF, qD, qE]] ++ C))) rfl (TO.less (Less.segBack [nestH y30_2 w30 y30 w30_2] (seg encI w30_2 y30) [.row b1 3 [qF, qD, qE]]) (zG (_::_::(seg encI w30_2 y30 ++ C)) rfl (zA R4 (zN (zU rfl (zA R4 (zN (zB ?_))))))))
    show T _ _ _ _ _ _;apply T.iter (r := j) (W := Unit) (fun j w => ⟨[], [(1, .ptr b1 0 3), (7, iv (many)), (8, w30), (9, iv (j))], nestH y30_2 w30 y30 w30_2 :: .row b1 3 [qF, qD, qE] :: (seg encI w30_2 y30 ++ C)⟩) (w0 := ()) h
    ·exact (sb .refl)
    rintro i _ a h;unfold P_r9_Astray_L2 at h;refine zS (zU rfl (zM R4 (zM R4 (zV R3 (Val.len_nest (p := 0) rfl rfl rfl) ?_))));obtain ⟨c34, hc34⟩ := zY (i < (y30.length : Int));refine zV R3 (Val.lss hc34 rfl rfl) (zN ?_);obtain ⟨rfl, hc34, h⟩ | ⟨rfl, hc34, h⟩ := zI hc34 h
    ·refine zC rfl (zK (zS (zB (zS (T.drawE (l1 := [0, 1, 2, 3, 4, 5]) (l2 := [6, 7]) (by kernel_rfl) (by kernel_rfl) (yL R4 (Val.faddr_ptr (fo := 2) rfl rfl rfl) (yR R4 (vR (p := 1) R6) (yL R4 (Val.move rfl) (yL R4 (Val.move rfl) ?_)))))))));obtain ⟨hk41, h⟩ := chk_some h;refine TD1.fact (nel_at (p := 0) rfl hk41) (fun hp=>?_);obtain ⟨idn41, atn41, ewn41⟩ := hp;refine yL R4 (Val.iaddr_nest atn41 ⟨rfl, rfl⟩ rfl rfl hk41) (yR R4 (Val.load_nest (p := 0) rfl atn41 ⟨_, rfl, rfl⟩ rfl ewn41) (TD1.over (fun v => sameC_refl v) (all_cons (⟨_, rfl, (Val.load_nest (p := 0) rfl atn41 ⟨_, rfl, rfl⟩ rfl ewn41)⟩) (all_cons (⟨_, rfl, (vR (p := 1) R6)⟩) all_nil)) (TD2.fact (nest_len (p := 0) rfl) (fun hl=>?_))));obtain ⟨y43, hr43, h⟩ := andx_some h;refine TD2.heavy (fun v => sameC_refl v) rfl (by decide) rfl rfl (OpS.callV rfl rfl rfl rfl (orcN rfl) (RepF.conv (tf_r9_Less aD (Rdl.mono qT (memS (memS (memG mem0)))) (Rdl.mono (Rdl.nel (C := C) hl i.toNat) M2) hr43))) ?_;rintro w43 hs_ ⟨w43, rfl, he_⟩;subst hs_;refine ⟨(all_cons (.inl (by kernel_rfl)) (all_cons (.inl (by kernel_rfl)) all_nil)), all_nil, ?_⟩;refine yG (_::_::_::(seg encI w30_2 y30 ++ C)) rfl ?_;obtain ⟨y44, hr44, h⟩ := andx_some h;refine TD2.heavy (fun v => sameC_refl v) rfl (by decide) rfl rfl (OpS.callV rfl rfl rfl rfl (orcN rfl) (RepF.conv (tf_r9_Ordered aD (Rdl.mono (Rdl.own (C := ownL true w43 qP y43 :: nestH y30_2 w30 y30 w30_2 :: .row b1 3 [qF, qD, qE] :: (seg encI w30_2 y30 ++ C)) (p := 0) rfl) mem0) hr44))) ?_;rintro _ hs_ ⟨_, rfl, he_⟩;subst hs_;refine ⟨(all_cons (.inl (by kernel_rfl)) (all_cons (.inl (by kernel_rfl)) all_nil)), all_nil, ?_⟩;refine yG (_::_::_::(seg encI w30_2 y30 ++ C)) rfl (TD2.nil ?_);obtain ⟨rfl, h⟩ | ⟨rfl, h⟩ := zZ h
     ·refine zC rfl (zU rfl (zM R4 (zM R4 ?_)));obtain ⟨hk47, h⟩ := chk_some h;refine TO.fact (nel_at (p := 1) rfl hk47) (fun hp=>?_);obtain ⟨idn47, atn47, ewn47⟩ := hp;refine zV R3 (Val.iaddr_nest atn47 ⟨rfl, rfl⟩ rfl rfl hk47) (zV R3 (Val.load_nest (p := 1) rfl atn47 ⟨_, rfl, rfl⟩ rfl ewn47) (zA R4 (zA R4 (zN (T.fact (nest_len (p := 1) rfl) (fun hl_2=>T.less (Less.nel (en := encI) (C := C) [ownL true w43 qP y43, nestH y30_2 w30 y30 w30_2, .row b1 3 [qF, qD, qE]] hl_2 i.toNat) (T.things (hs' := ownL true (nelV w30_2 i.toNat) encI (nelL y30 i.toNat) :: ownL true w43 qP y43 :: nestH y30_2 w30 y30 w30_2 :: .row b1 3 [qF, qD, qE] :: C) rfl (zR ?_))))))));cases h;exact ⟨ret_ne, ⟨ret_ne, ⟨ret_ne, ⟨ret_ne, ⟨rfl, _, rfl, ⟨(nelV w30_2 i.toNat), rfl, (pk [0,98,98,98] rfl)⟩⟩⟩⟩⟩⟩
     refine zD rfl (zK (zT rfl (zM R4 ?_)));obtain ⟨hk36, h⟩ := chk_some h;refine zV R3 (Val.add rfl rfl hk36) (zA R4 (zN ?_));cases h;exact ⟨rfl, (), (sb (pk [1,1,98] rfl))⟩
    refine zD rfl (zE ?_);cases h;exact ⟨ex_ne, ⟨rfl, (), (sb (.pick (p := 1) rfl (.drop (.dropA .refl))))⟩⟩
   ·rintro _ _ h;refine zT rfl (zM R4 ?_);obtain ⟨hk25, h⟩ := chk_some h;refine zV R3 (Val.add rfl rfl hk25) (zA R4 (zN ?_));cases h;exact ⟨rfl, (), (sb .refl)⟩
  refine zD rfl (zE ?_);cases h;exact ⟨ex_ne, ⟨rfl, (), (sb .refl)⟩⟩
 ·rintro _ _ h;refine zU rfl (zA R4 (zA R4 (zN (T.nilown (u := encI.u) (zR ?_)))));cases h;exact ⟨rfl, _, rfl, ⟨nilS, rfl, (pk [0,98] rfl)⟩⟩
theorem w_r9_Astray (qG : GS encStr) (qC : GS qW) (qB : GS qP) (r : (List Int) × Int) (h : P_r9_Astray qG.l qC.l qB.l = some r) : Comes (EL 1) 26 [.agg [qG.v, qC.v, qB.v]] (.tuple [(GSo true encI r.1).v, iv r.2]) :=
 TF.run (tf_r9_Astray (Nat.le_refl _) (RdT.gs qG) (RdT.gs qC) (RdT.gs qB) h) fun w => (.tuple (.cons (.ownL (en := encI) (p := 0) rfl (.lits encI_lits)) (.cons .lit .nil)))
set_option maxRecDepth 10000 in
theorem tf_r9_Put {k : Nat} (hk : 2 ≤ k) {C : List Thing} {qF : AV} {qG : List Str} {qD : AV} {qC : List qH} {qE : AV} {qB : List qA} {qK : Int} {qL : Int} {qM : Str} {qJ : Int} {qI : Int} {qN : Int} {qO : Int} (qAa : RdT encStr qF qG) (qAb : RdT qW qD qC) (qZ : RdT qP qE qB) {r : Int × Int × (List Int) × Int} (h : P_r9_Put qG qC qB qK qL qM qJ qI qN qO = some r) :
  TF (EL k) 33 [.agg [qF, qD, qE], .agg [iv (qK), iv (qL), sv qM, iv (qJ), iv (qI), iv (qN), iv (qO)]] C (RepF (fun (w : AV) => .tuple [iv r.1, iv r.2.1, w, iv r.2.2.2]) (fun (w : AV) => ownL true w encI r.2.2.1 :: C)) := by
 unfold P_r9_Put at h
 have qV : Rdl C encStr qF qG := RdT.rdl qAa
 have qU : Rdl C qW qD qC := RdT.rdl qAb
 have qT : Rdl C qP qE qB := RdT.rdl qZ;refine TF.enter (fn := Go.Proofs.Tryz.f33) rfl rfl rfl rfl rfl (zU rfl (zQ 3 [_,_,_] R7 (fun b2=>zQ 7 [_,_,_,_,_,_,_] R7 (fun b3=>zA R4 (zA R4 (zA R4 (zA R4 (zN (zU rfl (zV R3 (vW 1 [_,_,_] R5 R4) (zV R3 (vW 0 [_,_,_,_,_,_,_] R5 R4) ?_)))))))))));obtain ⟨y16, hr16, h⟩ := andx_some h;obtain ⟨g, hgg, hrg⟩ := Rdl.reif (hs := .row b3 7 [iv (qK), iv (qL), sv qM, iv (qJ), iv (qI), iv (qN), iv (qO)] :: .row b2 3 [qF, qD, qE] :: C) qV M2 (ReifL.flat encStr_tr);obtain ⟨g_2, hgg_2, hrg_2⟩ := Rdl.reif (hs := .row b3 7 [iv (qK), iv (qL), sv qM, iv (qJ), iv (qI), iv (qN), iv (qO)] :: .row b2 3 [qF, qD, qE] :: C) qU M2 (ReifL.flat qAe);obtain ⟨g_3, hgg_3, hrg_3⟩ := Rdl.reif (hs := .row b3 7 [iv (qK), iv (qL), sv qM, iv (qJ), iv (qI), iv (qN), iv (qO)] :: .row b2 3 [qF, qD, qE] :: C) qT M2 (ReifL.flat qAd);refine TO.call rfl rfl rfl rfl rfl (orcL rfl aD) (.cons (.agg (.cons (hrg _) (.cons (hrg_2 _) (.cons (hrg_3 _) .nil)))) (.cons (.agg (.cons .lit (.cons .lit (.cons .lit (.cons .lit (.cons .lit (.cons .lit (.cons .lit .nil)))))))) .nil)) (sem_of (w_r9_Further g g_2 g_3 qK qL qM qJ qI qN qO _ (by try rw [hgg]; try rw [hgg_2]; try rw [hgg_3]; exact hr16))) (zA R4 (zN ?_))
 show T _ _ _ _ _ _;apply T.joinA (r := r) (W := Unit) (fun j w => ⟨[], [(2, .ptr b2 0 3), (3, .ptr b3 0 7), (8, iv (j))], .row b3 7 [iv (qK), iv (qL), sv qM, iv (qJ), iv (qI), iv (qN), iv (qO)] :: .row b2 3 [qF, qD, qE] :: C⟩) h
 ·intro j h
  show T _ _ _ _ _ _;apply T.joinA (r := j) (W := Unit) (fun j w => ⟨[], [(2, .ptr b2 0 3), (3, .ptr b3 0 7), (8, iv (y16)), (24, bv j)], .row b3 7 [iv (qK), iv (qL), sv qM, iv (qJ), iv (qI), iv (qN), iv (qO)] :: .row b2 3 [qF, qD, qE] :: C⟩) h
  ·intro j h;refine zT rfl (zM R4 ?_);obtain ⟨c18, hc18⟩ := zY (y16 = 0);refine zV R3 (Val.eql hc18 rfl rfl) (zM R4 ?_);obtain ⟨rfl, hc18, h⟩ | ⟨rfl, hc18, h⟩ := zI hc18 h
   ·refine zF 2 R6 (zL 1 R3 R6 (zV R3 (Val.len_l qT M2 rfl rfl) ?_));obtain ⟨c23, hc23⟩ := zY ((qB.length : Int) = 10);refine zV R3 (Val.eql hc23 rfl rfl) (zP R6 (zN ?_));subst hc23;cases h;exact ⟨rfl, (), (sb .refl)⟩
   refine zO R3 (zO R3 (zO R3 (zO R3 (zP R6 (zN ?_)))));cases h;exact ⟨rfl, (), (sb .refl)⟩
  ·rintro x24 _ h;obtain ⟨rfl, h⟩ | ⟨rfl, h⟩ := zZ h
   ·refine zC rfl (zT rfl (zA R4 (zN ?_)));cases h;exact ⟨rfl, (), (sb .refl)⟩
   refine zD rfl (zK ?_);cases h;exact ⟨rfl, (), (sb .refl)⟩
 ·rintro e _ h;refine zS (zU rfl (zM R4 ?_));obtain ⟨c26, hc26⟩ := zY (¬ e = 0);refine zV R3 (Val.neq hc26 rfl rfl) (zN ?_);obtain ⟨rfl, hc26, h⟩ | ⟨rfl, hc26, h⟩ := zI hc26 h
  ·refine zC rfl (zU rfl (zM R4 (zA R4 (zA R4 (zA R4 (zA R4 (zN (T.nilown (u := encI.u) (zR ?_)))))))));cases h;exact ⟨rfl, _, rfl, ⟨nilS, rfl, (pk [0,98,98] rfl)⟩⟩
  refine zD rfl (zK (zU rfl (zF 2 R6 (zL 1 R3 R6 (zV R3 (vW 0 [_,_,_,_,_,_,_] R5 R4) ?_)))));obtain ⟨⟨y32, y32_2⟩, hr32, h⟩ := andx_some h;dsimp only at h;refine TO.callT (first := []) (cap := []) (vs := [qE, .agg [iv (qK), iv (qL), sv qM, iv (qJ), iv (qI), iv (qN), iv (qO)]]) rfl rfl rfl rfl rfl rfl (orcN rfl) (tf_r9_With aD qZ hr32) ?_;rintro w32;refine zG (_::_::_::C) rfl (zM R4 (zX R5 (zX R5 (zA R4 (zA R4 (zN (zU rfl (zV R3 (vW 2 [_,_,_] R5 R4) (zM R4 (zM R4 ?_))))))))));obtain ⟨⟨y39, y39_2, y39_3⟩, hr39, h⟩ := andx_some h;dsimp only at h;refine TO.callT (first := []) (cap := []) (vs := [.agg [qF, qD, qE], w32, iv (y32_2), iv ((-1))]) rfl rfl rfl rfl rfl rfl (orcN rfl) (tf_r9_Fewest aD (Rdl.mono qV M3) (Rdl.mono qU M3) (Rdl.mono qT M3) (Rdl.mono (Rdl.own (C := ownL false w32 qP y32 :: .row b3 7 [iv (qK), iv (qL), sv qM, iv (qJ), iv (qI), iv (qN), iv (qO)] :: .row b2 3 [qF, qD, qE] :: C) (p := 0) rfl) mem0) hr39) ?_;rintro w39;refine zG (_::_::_::_::C) rfl (zM R4 (zX R5 (zX R5 (zX R5 (zA R4 (zA R4 (zA R4 (zN (zS (zU rfl (zM R4 (zV R3 (Val.not rfl) (zN ?_)))))))))))));obtain ⟨rfl, h⟩ | ⟨rfl, h⟩ := zZ h
  ·refine zD rfl (zK (zU rfl (zM R4 (zM R4 (zM R4 (zA R4 (zA R4 (zA R4 (zA R4 (zN (zR ?_)))))))))));cases h;exact ⟨rfl, _, rfl, ⟨w39, rfl, (pk [0,98,98,98] rfl)⟩⟩
  refine zC rfl (zU rfl (zA R4 (zA R4 (zA R4 (zA R4 (zN (T.nilown (u := encI.u) (zR ?_))))))));cases h;exact ⟨rfl, _, rfl, ⟨nilS, rfl, (pk [0,98,98,98,98] rfl)⟩⟩
theorem w_r9_Put (qG : GS encStr) (qC : GS qW) (qB : GS qP) (qK : Int) (qL : Int) (qM : Str) (qJ : Int) (qI : Int) (qN : Int) (qO : Int) (r : Int × Int × (List Int) × Int) (h : P_r9_Put qG.l qC.l qB.l qK qL qM qJ qI qN qO = some r) : Comes (EL 2) 33 [.agg [qG.v, qC.v, qB.v], .agg [iv (qK), iv (qL), sv qM, iv (qJ), iv (qI), iv (qN), iv (qO)]] (.tuple [iv r.1, iv r.2.1, (GSo true encI r.2.2.1).v, iv r.2.2.2]) :=
 TF.run (tf_r9_Put (Nat.le_refl _) (RdT.gs qG) (RdT.gs qC) (RdT.gs qB) h) fun w => (.tuple (.cons .lit (.cons .lit (.cons (.ownL (en := encI) (p := 0) rfl (.lits encI_lits)) (.cons .lit .nil)))))
end Go.Am.YtiaolgbmbhldgaaGreatDoor
end
section
namespace Go.Am
set_option linter.unusedVariables false
theorem i64_small {x : Int} (h : -4000000000000000000 ≤ x ∧ x ≤ 4000000000000000000) : I64 x := by unfold I64; omega
section
variable {σ ε J A β : Type}
def CountQ (idx : σ → Int) (I : Nat → σ → Prop) (k : Nat) (Q : ε → Prop) : Stp σ ε → Prop
 | .ag s => idx s = k + 1 ∧ I (k + 1) s
 | .dn e => Q e
def FinQ (Q : ε → Prop) : Stp σ ε → Prop
 | .ag _ => False
 | .dn e => Q e
theorem Ok.count (idx : σ → Int) (n : Nat) (I : Nat → σ → Prop) {body : σ → Option (Stp σ ε)} {s0 : σ} {Q : ε → Prop} (h0 : idx s0 = 0) (hI : I 0 s0)
  (step : ∀ k s, k < n → idx s = k → I k s → Ok (body s) (CountQ idx I k Q)) (fin : ∀ s, idx s = n → I n s → Ok (body s) (FinQ Q)) : Ok (Am.iter body s0) Q := by
 refine Ok.iter (fun s => ∃ k : Nat, k ≤ n ∧ idx s = k ∧ I k s) (fun s => n - (idx s).toNat) ⟨0, Nat.zero_le _, h0, hI⟩ ?_;rintro s ⟨k, hk, hx, hi⟩
 by_cases hlt : k < n
 ·refine (step k s hlt hx hi).mono fun x hq => ?_
  cases x with
  | ag s' =>
   have h1 : idx s' = k + 1 := hq.1;exact ⟨⟨k + 1, by omega, by rw [h1]; rfl, hq.2⟩, by show n - (idx s').toNat < n - (idx s).toNat; rw [h1, hx]; omega⟩
  | dn e => exact hq
 ·have : k = n := by omega
  subst this;refine (fin s hx hi).mono fun x hq => ?_
  cases x with
  | ag s' => exact hq.elim
  | dn e => exact hq
end
end Go.Am
end
section
namespace Go.Am
set_option linter.unusedVariables false
set_option linter.unusedSimpArgs false
open Classical in
noncomputable def scanX {A : Type} (f : Nat → Option A) (n : Nat) : Ex Unit A := match (List.range n).findSome? f with | some a => .rt a | none => .nx ()
theorem find_range {A : Type} {f : Nat → Option A} {a : A} : ∀ {n k : Nat}, k < n → (∀ j, j < k → f j = none) → f k = some a → (List.range n).findSome? f = some a := by
 intro n
 induction n with
 | zero => intro k hk; omega
 | succ n ih =>
  intro k hk h0 h1;rw [List.range_succ, List.findSome?_append]
  by_cases hkn : k = n
  ·subst hkn
   have : (List.range k).findSome? f = none := by
    rw [List.findSome?_eq_none_iff];intro x hx;exact h0 x (List.mem_range.1 hx)
   rw [this];simp [h1]
  ·rw [ih (by omega) h0 h1]; rfl
theorem find_none {A : Type} {f : Nat → Option A} {n : Nat} (h : ∀ j, j < n → f j = none) : (List.range n).findSome? f = none := by
 rw [List.findSome?_eq_none_iff];intro x hx;exact h x (List.mem_range.1 hx)
theorem of_find_none {A : Type} {f : Nat → Option A} {n : Nat} (h : (List.range n).findSome? f = none) : ∀ j, j < n → f j = none := by
 rw [List.findSome?_eq_none_iff] at h;exact fun j hj => h j (List.mem_range.2 hj)
def scanS {A : Type} {σ : Type} (s : σ) : Option A → Stp σ (Ex Unit A)
 | none => .ag s
 | some a => .dn (.rt a)
theorem iter_scan {A σ : Type} (idx : Nat → σ) (f : Nat → Option A) (n : Nat) {body : σ → Option (Stp σ (Ex Unit A))} (inj : ∀ k, idx k = idx k)
  (step : ∀ k : Nat, k < n → (∀ j, j < k → f j = none) → body (idx k) = some (scanS (idx (k + 1)) (f k)))
  (fin : (∀ j, j < n → f j = none) → body (idx n) = some (.dn (.nx ()))) : iter body (idx 0) = some (scanX f n) := by
 have key : ∀ m k : Nat, m = n - k → k ≤ n → (∀ j, j < k → f j = none) → iter body (idx k) = some (scanX f n) := by
  intro m
  induction m with
  | zero =>
   intro k hm hk h0
   have : k = n := by omega
   subst this;refine iter_eq.2 (.inr ?_);rw [fin h0];simp [scanX, find_none h0]
  | succ m ih =>
   intro k hm hk h0;cases hf : f k with
   | none =>
    refine iter_eq.2 (.inl ⟨idx (k + 1), ?_, ih (k + 1) (by omega) (by omega) fun j hj => ?_⟩)
    ·rw [step k (by omega) h0, hf]; rfl
    ·by_cases e : j = k
     ·rw [e]; exact hf
     ·exact h0 j (by omega)
   | some a =>
    refine iter_eq.2 (.inr ?_);rw [step k (by omega) h0, hf];simp [scanS, scanX, find_range (show k < n by omega) h0 hf]
 exact key n 0 (by omega) (by omega) (fun j hj => by omega)
theorem iter_scanI {A : Type} (f : Nat → Option A) (n : Nat) {body : Int → Option (Stp Int (Ex Unit A))}
  (step : ∀ k : Nat, k < n → (∀ j, j < k → f j = none) → body (k : Int) = some (scanS ((k : Int) + 1) (f k)))
  (fin : (∀ j, j < n → f j = none) → body (n : Int) = some (.dn (.nx ()))) : iter body 0 = some (scanX f n) :=
 iter_scan (fun k => (k : Int)) f n (fun _ => rfl) (fun k hk h => step k hk h) fin
theorem seqx_scan {A : Type} {f : Nat → Option A} {n : Nat} {k : Unit → Option A} : seqx (some (scanX f n)) k = match (List.range n).findSome? f with | some a => some a | none => k () := by
 unfold scanX;cases (List.range n).findSome? f <;> rfl
theorem el_at {α β : Type} {l : List α} {k : Nat} {a : α} {g : α → Option β} (h : l[k]? = some a) : el l (k : Int) g = g a := by
 unfold el;simp [h]
theorem get!_mk (l : Str) (i : Nat) : (⟨l.toArray⟩ : ByteArray).get! i = l.getD i 0 := by
 show l.toArray[i]! = _;rw [getElem!_def];simp [List.getD];cases l[i]? <;> rfl
theorem rune_ascii {l : Str} {p : Nat} {b : UInt8} (hb : l[p]? = some b) (h : b.toNat < 128) : runeAt l p = b.toNat ∧ runeLen l p = 1 := by
 have e : (⟨l.toArray⟩ : ByteArray).get! (p + 0) = b := by rw [get!_mk]; simp [List.getD, hb]
 unfold runeAt runeLen Utf8.decode;simp only [e];rw [if_pos h];exact ⟨rfl, rfl⟩
theorem rune_high {l : Str} {p : Nat} {b : UInt8} (hb : l[p]? = some b) (h : 128 ≤ b.toNat) : 128 ≤ runeAt l p := by
 have e : (⟨l.toArray⟩ : ByteArray).get! (p + 0) = b := by rw [get!_mk]; simp [List.getD, hb]
 unfold runeAt Utf8.decode;simp only [e, Utf8.runeError];rw [if_neg (by omega)];split
 ·split
  ·rename_i h1 h2; simp only [ge_iff_le] at h2; simp only; omega
  ·simp only; omega
 ·split
  ·split
   ·rename_i h1 h2; simp only [ge_iff_le, Bool.and_eq_true, decide_eq_true_eq] at h2; simp only; omega
   ·simp only; omega
  ·split
   ·split
    ·rename_i h1 h2; simp only [ge_iff_le, Bool.and_eq_true, decide_eq_true_eq] at h2; simp only; omega
    ·simp only; omega
   ·simp only; omega
def lowerN (x : Int) : Prop := 97 ≤ x ∧ x ≤ 122
def nameN (i : Nat) (x : Int) : Prop := lowerN x ∨ (0 < i ∧ ((48 ≤ x ∧ x ≤ 57) ∨ x = 46))
def isName (s : Str) : Prop := 0 < s.length ∧ s.length ≤ 16 ∧ ∀ i, i < s.length → nameN i (byteAt s i)
def isLow (s : Str) : Prop := ∀ i, i < s.length → lowerN (byteAt s i)
theorem byteAt_of {l : Str} {k : Nat} {b : UInt8} (h : l[k]? = some b) : byteAt l (k : Int) = b.toNat := by
 simp [byteAt, List.getD, h]
theorem get_some {α : Type} {l : List α} {k : Nat} (h : k < l.length) : ∃ a, l[k]? = some a := ⟨l[k], List.getElem?_eq_getElem h⟩
theorem byteAt_lt (l : Str) (k : Int) : 0 ≤ byteAt l k ∧ byteAt l k < 256 := by
 have := (l.getD k.toNat 0).toNat_lt;unfold byteAt;omega
theorem rune_low {l : Str} {p : Nat} (hp : p < l.length) : (runeAt l p = byteAt l p ∧ runeLen l p = 1) ∨ (128 ≤ runeAt l p ∧ 128 ≤ byteAt l p) := by
 obtain ⟨b, hb⟩ := get_some hp;rw [byteAt_of hb]
 by_cases h : b.toNat < 128
 ·exact .inl (rune_ascii hb h)
 ·exact .inr ⟨rune_high hb (by omega), by omega⟩
open Classical in
theorem find_if {A : Type} {P : Nat → Prop} {a : A} {n : Nat} : (List.range n).findSome? (fun i => if P i then none else some a) = if ∀ j, j < n → P j then none else some a := by
 by_cases h : ∀ j, j < n → P j
 ·rw [if_pos h, find_none fun j hj => if_pos (h j hj)]
 ·rw [if_neg h];cases hf : (List.range n).findSome? (fun i => if P i then none else some a) with
  | none =>
   refine absurd (fun i hi => ?_) h
   have := of_find_none hf i hi
   by_cases hl : P i
   ·exact hl
   ·rw [if_neg hl] at this; cases this
  | some b =>
   obtain ⟨x, hx, hx'⟩ := List.exists_of_findSome?_eq_some hf;split at hx'
   ·cases hx'
   ·exact hx'.symm
open Classical in
theorem r9_letters_eq (s : Str) (hs : s.length ≤ 1000) : P_r9_letters s = some (decide (isLow s)) := by
 unfold P_r9_letters;rw [iter_scanI (fun i => if lowerN (byteAt s i) then none else some false) s.length, seqx_scan, find_if]
 ·by_cases h : ∀ j, j < s.length → lowerN (byteAt s j)
  ·rw [if_pos h, decide_eq_true (show isLow s from h)]
  ·rw [if_neg h, decide_eq_false (show ¬ isLow s from h)]
 ·intro k hk h0;unfold P_r9_letters_L1;rw [if_pos (by omega), chk_pos (by omega), chk_pos (by omega), chk_pos (i64_small (by omega))];unfold lowerN;generalize byteAt s (k : Int) = x
  by_cases h1 : x < 97
  ·rw [if_pos h1, if_neg (by omega)]; rfl
  ·rw [if_neg h1]
   by_cases h2 : x > 122
   ·rw [if_neg (by omega), decide_eq_true h2]; rfl
   ·rw [if_pos (by omega), decide_eq_false h2]; rfl
 ·intro h0;unfold P_r9_letters_L1;rw [if_neg (by omega)]
theorem andx_some' {α β : Type} {a : α} {k : α → Option β} : andx (some a) k = k a := rfl
open Classical in
theorem r1_Name_eq (s : Str) : P_r1_Name s = some (decide (isName s)) := by
  unfold P_r1_Name
  by_cases h0 : s.length = 0
  · have : ¬ isName s := fun h => by have := h.1; omega
    rw [if_pos (by omega)]; simp [seqx, andx, this]
  by_cases h1 : 16 < s.length
  · have : ¬ isName s := fun h => by have := h.2.1; omega
    rw [if_neg (by omega), decide_eq_true (by omega)]; simp [seqx, andx, this]
  rw [if_neg (by omega), decide_eq_false (by omega)]
  show seqx (iter _ _) _ = _
  rw [iter_scanI (fun i => if nameN i (byteAt s i) then none else some false) s.length, seqx_scan, find_if]
  · by_cases h : ∀ j, j < s.length → nameN j (byteAt s j)
    · rw [if_pos h, decide_eq_true ⟨by omega, by omega, h⟩]
    · rw [if_neg h, decide_eq_false fun k => h k.2.2]
  · intro k hk hj
    unfold P_r1_Name_L1
    rw [if_pos (by omega)]
    simp only [chk_pos (show 0 ≤ (k : Int) ∧ (k : Int) < (s.length : Int) by omega), chk_pos (show I64 ((k : Int) + 1) from i64_small (by omega))]
    unfold nameN lowerN
    generalize byteAt s (k : Int) = x
    by_cases a1 : x ≥ 97 <;> by_cases a2 : x ≤ 122 <;> by_cases a3 : k = 0 <;> by_cases a4 : x ≥ 48 <;> by_cases a5 : x ≤ 57 <;> by_cases a6 : x = 46 <;>
      first
      | (exfalso; omega)
      | (rw [if_pos (show (97 ≤ x ∧ x ≤ 122) ∨ (0 < k ∧ ((48 ≤ x ∧ x ≤ 57) ∨ x = 46)) by omega)]; simp [andx, seqx, scanS, a1, a2, a3, a4, a5, a6]; done)
      | (rw [if_neg (show ¬ ((97 ≤ x ∧ x ≤ 122) ∨ (0 < k ∧ ((48 ≤ x ∧ x ≤ 57) ∨ x = 46))) by omega)]; simp [andx, seqx, scanS, a1, a2, a3, a4, a5, a6]; done)
  · intro hj
    unfold P_r1_Name_L1
    rw [if_neg (by omega)]
open Classical in
theorem q_Name_eq (s : Str) : P_q_Name s = some (decide (isName s)) := by
  unfold P_q_Name
  rw [iter_scan (fun k : Nat => k) (fun i => if nameN i (byteAt s i) then none else some false) s.length (fun _ => rfl), seqx_scan, find_if]
  · by_cases h : ∀ j, j < s.length → nameN j (byteAt s j)
    · rw [if_pos h]
      show andx _ _ = _
      by_cases h0 : s = []
      · subst h0
        have : ¬ isName [] := fun h => absurd h.1 (by simp)
        simp [andx, this]
      · have hpos : 0 < s.length := List.length_pos_iff.2 h0
        rw [if_pos h0]
        show some _ = some _
        congr 1
        by_cases h1 : s.length ≤ 16
        · rw [decide_eq_true (by omega), decide_eq_true ⟨hpos, h1, h⟩]
        · rw [decide_eq_false (by omega), decide_eq_false fun k => h1 k.2.1]
    · rw [if_neg h, decide_eq_false (show ¬ isName s from fun k => h k.2.2)]
  · intro k hk hj
    unfold P_q_Name_L1
    rw [if_pos hk]
    show _ = some (scanS (k + 1) _)
    have hb := byteAt_lt s (k : Int)
    unfold nameN lowerN
    rcases rune_low hk with ⟨h1, h2⟩ | ⟨h1, h2⟩
    · rw [h1, h2]
      generalize byteAt s (k : Int) = x
      by_cases a1 : x ≥ 97 <;> by_cases a2 : x ≤ 122 <;> by_cases a3 : 0 < k <;> by_cases a4 : x ≥ 48 <;> by_cases a5 : x ≤ 57 <;> by_cases a6 : x = 46 <;>
        first
        | (exfalso; omega)
        | (rw [if_pos (show (97 ≤ x ∧ x ≤ 122) ∨ (0 < k ∧ ((48 ≤ x ∧ x ≤ 57) ∨ x = 46)) by omega)]; simp [andx, scanS, a1, a2, a3, a4, a5, a6]; done)
        | (rw [if_neg (show ¬ ((97 ≤ x ∧ x ≤ 122) ∨ (0 < k ∧ ((48 ≤ x ∧ x ≤ 57) ∨ x = 46))) by omega)]; simp [andx, scanS, a1, a2, a3, a4, a5, a6]; done)
    · generalize byteAt s (k : Int) = x at *
      generalize runeAt s k = y at *
      rw [if_neg (show ¬ ((97 ≤ x ∧ x ≤ 122) ∨ (0 < k ∧ ((48 ≤ x ∧ x ≤ 57) ∨ x = 46))) by omega)]
      have a1 : y ≥ 97 := by omega
      have a2 : ¬ y ≤ 122 := by omega
      have a4 : y ≥ 48 := by omega
      have a5 : ¬ y ≤ 57 := by omega
      have a6 : ¬ y = 46 := by omega
      by_cases a3 : 0 < k <;> simp [andx, scanS, a1, a2, a3, a4, a5, a6]
  · intro hj
    unfold P_q_Name_L1
    rw [if_neg (by omega)]
end Go.Am
end
section
namespace Go.Am
set_option linter.unusedVariables false
set_option linter.unusedSimpArgs false
open Classical in
theorem r9_in_eq (n a b : Int) : P_r9_in n a b = some (decide (a ≤ n ∧ n ≤ b)) := by
 unfold P_r9_in
 by_cases h : a ≤ n
 ·rw [if_pos h]
  by_cases h2 : n ≤ b
  ·simp [andx, h, h2]
  ·simp [andx, h2]
 ·rw [if_neg h]; simp [andx, h]
open Classical in
theorem find_idx {P : Nat → Prop} {n : Nat} : ((∀ j, j < n → P j) ∧ (List.range n).findSome? (fun i => if P i then none else some (i : Int)) = none) ∨ ((¬ ∀ j, j < n → P j) ∧ ∃ k : Int, 0 ≤ k ∧ (List.range n).findSome? (fun i => if P i then none else some (i : Int)) = some k) := by
 by_cases h : ∀ j, j < n → P j
 ·exact .inl ⟨h, find_none fun j hj => if_pos (h j hj)⟩
 ·refine .inr ⟨h, ?_⟩;cases hf : (List.range n).findSome? (fun i => if P i then none else some (i : Int)) with
  | none =>
   refine absurd (fun i hi => ?_) h
   have := of_find_none hf i hi
   by_cases hl : P i
   ·exact hl
   ·rw [if_neg hl] at this; cases this
  | some k =>
   obtain ⟨x, hx, hx'⟩ := List.exists_of_findSome?_eq_some hf;split at hx'
   ·cases hx'
   ·cases hx'; exact ⟨_, by omega, rfl⟩
def btw (lo hi x : Int) : Prop := lo ≤ x ∧ x ≤ hi
def btwAt (lo hi : Int) (l : List Int) (i : Nat) : Prop := ∀ x, l[i]? = some x → btw lo hi x
open Classical in
theorem s9_out_eq (lo hi : Int) (l : List Int) (hl : l.length ≤ 1000) : P_s9_out lo hi l = some (decide (¬ ∀ j, j < l.length → btwAt lo hi l j)) := by
 unfold P_s9_out;rw [iter_scanI (fun i => if btwAt lo hi l i then none else some (i : Int)) l.length, seqx_scan]
 ·rcases find_idx (P := btwAt lo hi l) (n := l.length) with ⟨h, e⟩ | ⟨h, k, hk, e⟩
  ·rw [e]
   have : ¬ ¬ ∀ j, j < l.length → btwAt lo hi l j := fun hn => hn h
   simp only [andx];rw [decide_eq_false this]; rfl
  ·rw [e];simp only [andx];rw [decide_eq_true h, decide_eq_true hk]
 ·intro k hk _;unfold P_s9_out_L1;obtain ⟨a, ha⟩ := get_some hk;rw [if_pos (by omega), el_at ha, chk_pos (i64_small (by omega))]
  have e : btwAt lo hi l k ↔ (lo ≤ a ∧ a ≤ hi) := by
   unfold btwAt; rw [ha]; exact ⟨fun h => h a rfl, fun h x hx => by cases hx; exact h⟩
  by_cases h1 : a < lo
  ·rw [if_pos h1, if_neg (fun h => by have := e.1 h; omega)]; rfl
  ·rw [if_neg h1]
   by_cases h2 : a > hi
   ·rw [decide_eq_true h2, if_neg (fun h => by have := e.1 h; omega)]; rfl
   ·rw [decide_eq_false h2, if_pos (e.2 (by omega))]; rfl
 ·intro _;unfold P_s9_out_L1;rw [if_neg (by omega)]
open Classical in
theorem s9_out1 (lo hi a : Int) : P_s9_out lo hi [a] = some (decide (¬ btw lo hi a)) := by
 rw [s9_out_eq _ _ _ (by simp)]
 congr 1
 refine decide_eq_decide.2 ?_;refine not_congr ⟨fun h => h 0 (by simp) a rfl, fun h j hj x hx => ?_⟩
 match j with
 | 0 => cases hx; exact h
open Classical in
theorem s9_out2 (lo hi a b : Int) : P_s9_out lo hi [a, b] = some (decide (¬ (btw lo hi a ∧ btw lo hi b))) := by
 rw [s9_out_eq _ _ _ (by simp)]
 congr 1
 refine decide_eq_decide.2 ?_;refine not_congr ⟨fun h => ⟨h 0 (by simp) a rfl, h 1 (by simp) b rfl⟩, fun h j hj x hx => ?_⟩
 match j with
 | 0 => cases hx; exact h.1
 | 1 => cases hx; exact h.2
theorem r1_Place_ok (l : List Str) (w : Str) (hl : l.length ≤ 1000) : Ok (P_r1_Place l w) fun r => (0 ≤ r ↔ w ∈ l) := by
 unfold P_r1_Place;refine .chk (i64_small (by omega)) ?_;refine Ok.andx (P := fun at_ : Int => (0 ≤ at_ ↔ w ∈ l) ∧ at_ < l.length) ?_ ?_
 ·refine Ok.iter (fun at_ : Int => (-1 ≤ at_ ∧ at_ < l.length) ∧ ∀ j : Nat, at_ < j → l[j]? ≠ some w) (fun at_ : Int => (at_ + 1).toNat) ⟨by omega, fun j hj hj' => ?_⟩ ?_
  ·have := (List.getElem?_eq_some_iff.1 hj').1;omega
  ·rintro at_ ⟨h1, h2⟩;unfold P_r1_Place_L1
   by_cases h3 : at_ ≥ 0
   ·rw [if_pos h3];obtain ⟨k, rfl⟩ := Int.eq_ofNat_of_zero_le h3;obtain ⟨a, ha⟩ := get_some (l := l) (k := k) (by omega);rw [el_at ha]
    by_cases h4 : a = w
    ·simp only [h4, not_true, decide_false, andx, seqx];refine .some ⟨⟨fun _ => h4 ▸ List.mem_of_getElem? ha, fun _ => h3⟩, h1.2⟩
    ·simp only [h4, not_false_iff, decide_true, andx, seqx, if_true];refine .chk (i64_small (by omega)) (.some ⟨⟨by omega, fun j hj => ?_⟩, by show ((k : Int) - 1 + 1).toNat < ((k : Int) + 1).toNat; omega⟩)
     by_cases hjk : j = k
     ·subst hjk; rw [ha]; exact fun e => h4 (by cases e; rfl)
     ·exact h2 j (by omega)
   ·rw [if_neg h3];simp only [andx, seqx];refine .some ⟨⟨fun h => absurd h h3, fun h => ?_⟩, h1.2⟩;obtain ⟨j, hj⟩ := List.getElem?_of_mem h;exact absurd hj (h2 j (by omega))
 ·rintro at_ ⟨h1, h2⟩;refine Ok.seqx ?_
  by_cases h0 : 0 ≤ at_
  ·refine Ok.count id at_.toNat (fun _ _ => True) rfl trivial ?_ ?_
   ·rintro k x hk hx _;simp only [id] at hx;subst hx;unfold P_r1_Place_L2;obtain ⟨a, ha⟩ := get_some (l := l) (k := k) (by omega);rw [if_pos (by omega), el_at ha];refine .ite (fun h => .some ?_) (fun h => .chk (i64_small (by omega)) (.some ⟨rfl, trivial⟩))
    show (0 ≤ (k : Int) ↔ w ∈ l);exact ⟨fun _ => h1.1 h0, fun _ => by omega⟩
   ·rintro x hx _;simp only [id] at hx;unfold P_r1_Place_L2;rw [if_neg (by omega)];exact .some (.some h1)
  ·refine Ok.count id 0 (fun _ _ => True) rfl trivial (fun k x hk => by omega) ?_;rintro x hx _;simp only [id] at hx;unfold P_r1_Place_L2;rw [if_neg (by omega)];exact .some (.some h1)
open Classical in
noncomputable def clErr (cl : List Str) (i : Nat) (a : Str) : Int := if isName a then (if a ∈ cl.take i then 5 else 0) else 6
open Classical in
theorem r1_Fresh_eq (w : Str) (cl : List Str) (i : Nat) (hl : cl.length ≤ 1000) : P_r1_Fresh w (cl.take i) = some (clErr cl i w) := by
 refine Ok.get ?_;unfold P_r1_Fresh;refine Ok.andx (P := fun e => e = if w ∈ cl.take i then 5 else 0) ((r1_Place_ok _ w (by rw [List.length_take]; omega)).andx fun r hr => ?_) ?_
 ·refine .ite (fun h => .some ?_) (fun h => .some ?_)
  ·rw [if_pos (hr.1 h)]
  ·rw [if_neg fun h' => h (hr.2 h')]
 ·rintro e he;rw [r1_Name_eq];unfold clErr;subst he
  by_cases h : isName w
  ·simp only [h, decide_true, andx, if_true]; exact .some rfl
  ·simp only [h, decide_false, andx, if_false, Bool.false_eq_true]; exact .some rfl
end Go.Am
end
section
namespace Go.Am
set_option linter.unusedVariables false
set_option linter.unusedSimpArgs false
def shOk (a : qH) : Prop := (btw 0 1000 a.away ∧ btw 0 1000 a.climb) ∧ (btw 1 2000 a.wide ∧ btw 1 2000 a.high)
open Classical in
noncomputable def shErr (a : qH) : Int := if shOk a then 0 else 7
open Classical in
noncomputable def mkErr (ncl : Nat) (c n : Int) (s : Str) : Int :=
 if btw 0 ((ncl : Int) - 1) c then (if btw 1 9999 n then (if s.length ≤ 2 then (if isLow s then 0 else 6) else 6) else 7) else 4
open Classical in
theorem r9_Mark_eq {cl : List Str} {sh : List qH} {bs : List qA} {c n : Int} {s : Str} (hl : cl.length ≤ 1000) : P_r9_Mark cl sh bs c n s = some (mkErr cl.length c n s) := by
 unfold P_r9_Mark;rw [chk_pos (i64_small (by omega)), r9_in_eq, r9_in_eq, andx_some'];unfold mkErr
 by_cases h1 : btw 0 ((cl.length : Int) - 1) c
 ·rw [if_pos h1, decide_eq_true (show _ ∧ _ from h1), if_pos rfl, andx_some']
  by_cases h2 : btw 1 9999 n
  ·rw [if_pos h2, decide_eq_true (show _ ∧ _ from h2), if_pos rfl]
   by_cases h3 : s.length ≤ 2
   ·rw [if_neg (by omega), r9_letters_eq s (by omega), if_pos h3]
    by_cases h4 : isLow s
    ·rw [if_pos h4, decide_eq_true h4]; rfl
    ·rw [if_neg h4, decide_eq_false h4]; rfl
   ·rw [if_pos (by omega), if_neg h3]; rfl
  ·rw [if_neg h2, decide_eq_false (show ¬ (_ ∧ _) from h2), if_neg (by decide)]
 ·rw [if_neg h1, decide_eq_false (show ¬ (_ ∧ _) from h1), if_neg (by decide)]
open Classical in
theorem s9_mark_eq {cl : List Str} {sh : List qH} {bs : List qA} {c n : Int} {s : Str} (hl : cl.length ≤ 1000) : P_s9_mark cl sh bs c n s = some (mkErr cl.length c n s) := by
 unfold P_s9_mark;rw [chk_pos (i64_small (by omega)), s9_out1, s9_out1, andx_some'];unfold mkErr
 by_cases h1 : btw 0 ((cl.length : Int) - 1) c
 ·rw [if_pos h1, decide_eq_false (not_not_intro h1), if_neg (by decide), andx_some']
  by_cases h2 : btw 1 9999 n
  ·rw [if_pos h2, decide_eq_false (not_not_intro h2), if_neg (by decide)]
   by_cases h3 : s.length ≤ 2
   ·rw [if_neg (by omega), if_pos h3];rw [iter_scan (fun k : Nat => k) (fun i => if lowerN (byteAt s i) then none else some 6) s.length (fun _ => rfl), seqx_scan, find_if]
    ·by_cases h : ∀ j, j < s.length → lowerN (byteAt s j)
     ·rw [if_pos h, if_pos (show isLow s from h)]
     ·rw [if_neg h, if_neg (show ¬ isLow s from h)]
    ·intro k hk hj;unfold P_s9_mark_L1;rw [if_pos hk]
     show _ = some (scanS (k + 1) _)
     have hb := byteAt_lt s (k : Int);unfold lowerN
     rcases rune_low hk with ⟨h1, h2⟩ | ⟨h1, h2⟩
     ·rw [h1, h2];generalize byteAt s (k : Int) = x
      by_cases a1 : x < 97
      ·rw [if_pos a1, if_neg (show ¬ (97 ≤ x ∧ x ≤ 122) by omega)]; rfl
      ·rw [if_neg a1]
       by_cases a2 : x > 122
       ·rw [if_neg (show ¬ (97 ≤ x ∧ x ≤ 122) by omega), decide_eq_true a2]; rfl
       ·rw [if_pos (show (97 ≤ x ∧ x ≤ 122) by omega), decide_eq_false a2]; rfl
     ·generalize byteAt s (k : Int) = x at *;generalize runeAt s k = y at *;rw [if_neg (show ¬ (97 ≤ x ∧ x ≤ 122) by omega), if_neg (show ¬ y < 97 by omega), decide_eq_true (show y > 122 by omega)]; rfl
    ·intro hj;unfold P_s9_mark_L1;rw [if_neg (by omega)]
   ·rw [if_pos (by omega), if_neg h3]
  ·rw [if_neg h2, decide_eq_true h2, if_pos rfl]
 ·rw [if_neg h1, decide_eq_true h1, if_pos rfl]
def sameMark (a : qA) (c n : Int) (s : Str) : Prop := a.qR = c ∧ a.qS = n ∧ a.qQ = s
def twice (l : List qA) (c n : Int) (s : Str) : Prop := ∃ j, j < l.length ∧ ∃ a, l[j]? = some a ∧ sameMark a c n s
def bkRange (w h y : Int) : Prop := btw 1 2000 w ∧ btw 1 2000 h ∧ btw 1 100 y
open Classical in
noncomputable def bkErr1 (ncl : Nat) (c n : Int) (s : Str) (w h y : Int) (before : List qA) : Int :=
 if mkErr ncl c n s = 0 then (if bkRange w h y then (if twice before c n s then 5 else 0) else 7) else mkErr ncl c n s
open Classical in
theorem r9_Book_eq {cl : List Str} {sh : List qH} {bs : List qA} {c n : Int} {s : Str} {w h y p : Int} {before : List qA} (hl : cl.length ≤ 1000) (hb : before.length ≤ 1000) :
  P_r9_Book cl sh bs c n s w h y p before = some (bkErr1 cl.length c n s w h y before) := by
 refine Ok.get ?_;unfold P_r9_Book;rw [r9_Mark_eq hl, andx_some'];simp only [r9_in_eq];generalize he : mkErr cl.length c n s = e0;refine Ok.andx (P := fun e => e = if e0 = 0 then (if bkRange w h y then 0 else 7) else e0) ?_ ?_
 ·by_cases h0 : e0 = 0
  ·simp only [h0, if_true, andx]
   by_cases h1 : btw 1 2000 w
   ·have h1' : 1 ≤ w ∧ w ≤ 2000 := h1;simp only [h1', and_self, decide_true, if_true]
    by_cases h2 : btw 1 2000 h
    ·have h2' : 1 ≤ h ∧ h ≤ 2000 := h2;simp only [h2', and_self, decide_true, if_true]
     by_cases h3 : btw 1 100 y
     ·have h3' : 1 ≤ y ∧ y ≤ 100 := h3;simp only [h3', and_self, decide_true, Bool.not_true, Bool.false_eq_true, if_false];refine .some ?_;rw [if_pos (show bkRange w h y from ⟨h1, h2, h3⟩)]
     ·have h3' : ¬ (1 ≤ y ∧ y ≤ 100) := h3;simp only [h3', decide_false, Bool.not_false, if_true];refine .some ?_;rw [if_neg (show ¬ bkRange w h y from fun k => h3 k.2.2)]
    ·have h2' : ¬ (1 ≤ h ∧ h ≤ 2000) := h2;simp only [h2', decide_false, Bool.false_eq_true, if_false, if_true];refine .some ?_;rw [if_neg (show ¬ bkRange w h y from fun k => h2 k.2.1)]
   ·have h1' : ¬ (1 ≤ w ∧ w ≤ 2000) := h1;simp only [h1', decide_false, Bool.false_eq_true, if_false, if_true];refine .some ?_;rw [if_neg (show ¬ bkRange w h y from fun k => h1 k.1)]
  ·simp only [h0, if_false, andx, Bool.false_eq_true];exact .some rfl
 ·rintro e hee;refine Ok.andx (P := fun r => r = bkErr1 cl.length c n s w h y before) ?_ (fun r hr => .some hr)
  have fin : bkErr1 cl.length c n s w h y before = if e = 0 then (if twice before c n s then 5 else 0) else e := by
   unfold bkErr1;rw [he]
   by_cases h0 : e0 = 0
   ·rw [if_pos h0]
    by_cases h1 : bkRange w h y
    ·rw [if_pos h1, hee, if_pos h0, if_pos h1, if_pos rfl]
    ·rw [if_neg h1, hee, if_pos h0, if_neg h1]; rfl
   ·rw [if_neg h0, hee, if_neg h0, if_neg h0]
  rw [fin];refine Ok.iter (fun (x : Int × Int) => 0 ≤ x.2 ∧ x.2 ≤ before.length ∧ ((x.1 = e ∧ (e ≠ 0 ∨ ∀ j : Nat, j < x.2 → ∀ a, before[j]? = some a → ¬ sameMark a c n s)) ∨ (e = 0 ∧ x.1 = 5 ∧ twice before c n s))) (fun x => (before.length - x.2).toNat) ⟨by simp, by simp, .inl ⟨rfl, .inr fun j hj => by simp at hj; omega⟩⟩ ?_;rintro ⟨e2, i⟩ ⟨h1, h2, h3⟩;obtain ⟨k, hk⟩ := Int.eq_ofNat_of_zero_le h1;simp only at hk h1 h2 h3;subst hk;unfold P_r9_Book_L1
  show Ok (seqx _ _) _;refine Ok.seqx ?_
  by_cases hlt : (k : Int) < before.length
  ·rw [if_pos hlt]
   by_cases he2 : e2 = 0
   ·rw [decide_eq_true he2];refine .some ?_
    show Ok (andx _ _) _;obtain ⟨a, ha⟩ := get_some (l := before) (k := k) (by omega);refine Ok.andx (P := fun e3 => (sameMark a c n s ∧ e3 = 5) ∨ (¬ sameMark a c n s ∧ e3 = e2)) ?_ ?_
    ·rw [el_at ha];exact .ite (fun h => .some (.inl ⟨h, rfl⟩)) (fun h => .some (.inr ⟨h, rfl⟩))
    ·rintro e3 h4;refine .chk (i64_small (by omega)) (.some ⟨⟨by show (0:Int) ≤ (k : Int) + 1; omega, by show (k : Int) + 1 ≤ _; omega, ?_⟩, by show ((before.length : Int) - ((k : Int) + 1)).toNat < ((before.length : Int) - (k : Int)).toNat; omega⟩)
     rcases h3 with ⟨h5, h6⟩ | ⟨h5, h6, h7⟩
     ·have e00 : e = 0 := h5.symm.trans he2
      rcases h4 with ⟨h8, h9⟩ | ⟨h8, h9⟩
      ·exact .inr ⟨e00, h9, k, by omega, a, ha, h8⟩
      ·refine .inl ⟨h9.trans h5, .inr fun j hj a' ha' => ?_⟩
       by_cases hjk : j = k
       ·subst hjk; rw [ha] at ha'; cases ha'; exact h8
       ·rcases h6 with h6 | h6
        ·exact absurd e00 h6
        ·exact h6 j (by simp only at hj; omega) a' ha'
     ·exact absurd (h6.symm.trans he2) (by decide)
   ·rw [decide_eq_false he2];refine .some ?_
    show e2 = _
    rcases h3 with ⟨h5, h6⟩ | ⟨h5, h6, h7⟩
    ·rw [if_neg (fun h => he2 (h5.trans h)), h5]
    ·rw [if_pos h5, if_pos h7, h6]
  ·rw [if_neg hlt];refine .some ?_
   show e2 = _
   rcases h3 with ⟨h5, h6⟩ | ⟨h5, h6, h7⟩
   ·by_cases he0 : e = 0
    ·rw [if_pos he0, if_neg, h5, he0];rintro ⟨j, hj, a, ha, hs⟩
     rcases h6 with h6 | h6
     ·exact h6 he0
     ·exact h6 j (by omega) a ha hs
    ·rw [if_neg he0, h5]
   ·rw [if_pos h5, if_pos h7, h6]
def bookHit (l : List qA) (c n : Int) (s : Str) (i : Nat) : Prop := ∃ a, l[i]? = some a ∧ sameMark a c n s
def bookMiss (l : List qA) (c n : Int) (s : Str) (i : Nat) : Prop := ¬ bookHit l c n s i
open Classical in
theorem s9_book_eq {cl : List Str} {sh : List qH} {bs : List qA} {c n : Int} {s : Str} {w h y p : Int} {before : List qA} (hl : cl.length ≤ 1000) (hb : before.length ≤ 1000) :
  P_s9_book cl sh bs c n s w h y p before = some (bkErr1 cl.length c n s w h y before) := by
 unfold P_s9_book;rw [s9_mark_eq hl, andx_some'];unfold bkErr1
 by_cases h0 : mkErr cl.length c n s = 0
 ·rw [if_pos h0, if_neg (not_not_intro h0), s9_out2, s9_out1, andx_some', andx_some']
  by_cases h1 : btw 1 2000 w ∧ btw 1 2000 h
  ·rw [decide_eq_false (not_not_intro h1), if_neg (by decide), andx_some']
   by_cases h2 : btw 1 100 y
   ·rw [decide_eq_false (not_not_intro h2), if_neg (by decide), if_pos (show bkRange w h y from ⟨h1.1, h1.2, h2⟩)];rw [iter_scanI (fun i => if bookMiss before c n s i then none else some (i : Int)) before.length, seqx_scan]
    ·rcases find_idx (P := bookMiss before c n s) (n := before.length) with ⟨h, e⟩ | ⟨h, k, hk, e⟩
     ·rw [e, if_neg (show ¬ twice before c n s from fun ⟨j, hj, a, ha, hs⟩ => h j hj ⟨a, ha, hs⟩)];rfl
     ·rw [e, if_pos (show twice before c n s from ?_)]
      ·show seqx (if k ≥ 0 then _ else _) _ = _;rw [if_pos (by omega)]; rfl
      ·refine Classical.byContradiction fun hn => h fun j hj ⟨a, ha, hs⟩ => hn ⟨j, hj, a, ha, hs⟩
    ·intro k hk _;unfold P_s9_book_L1;obtain ⟨a, ha⟩ := get_some hk;rw [if_pos (by omega), el_at ha, chk_pos (i64_small (by omega))]
     by_cases hs : sameMark a c n s
     ·rw [if_pos (show _ ∧ _ from hs), if_neg (show ¬ bookMiss before c n s k from not_not_intro ⟨a, ha, hs⟩)]; rfl
     ·rw [if_neg (show ¬ (_ ∧ _) from hs), if_pos (show bookMiss before c n s k from fun ⟨a', ha', hs'⟩ => by rw [ha] at ha'; cases ha'; exact hs hs')]; rfl
    ·intro _;unfold P_s9_book_L1;rw [if_neg (by omega)]
   ·rw [decide_eq_true h2, if_pos rfl, if_neg (show ¬ bkRange w h y from fun k => h2 k.2.2)]; rfl
  ·rw [decide_eq_true h1, if_pos rfl, andx_some', if_pos rfl, if_neg (show ¬ bkRange w h y from fun k => h1 ⟨k.1, k.2.1⟩)]; rfl
 ·rw [if_neg h0, if_pos h0]
end Go.Am
end
section
namespace Go.Am
set_option linter.unusedVariables false
set_option linter.unusedSimpArgs false
noncomputable def errAt {α : Type} (l : List α) (g : Nat → α → Int) (i : Nat) : Int := match l[i]? with | some a => g i a | none => 0
theorem errAt_of {α : Type} {l : List α} {g : Nat → α → Int} {i : Nat} {a : α} (h : l[i]? = some a) : errAt l g i = g i a := by unfold errAt; rw [h]
noncomputable def errF (f : Nat → Int) (i : Nat) : Option (Int × Int) := if f i = 0 then none else some ((i : Int), f i)
noncomputable def errG (c : Int) (f : Nat → Int) (i : Nat) : Option (Int × Int × Int) := if f i = 0 then none else some (c, (i : Int), f i)
noncomputable def firstE (f : Nat → Int) (n : Nat) : Option (Int × Int) := (List.range n).findSome? (errF f)
theorem first_fail {f : Nat → Int} : ∀ n : Nat, (∀ j, j < n → f j = 0) ∨ ∃ k, k < n ∧ f k ≠ 0 ∧ ∀ j, j < k → f j = 0 := by
 intro n
 induction n with
 | zero => exact .inl fun j hj => by omega
 | succ n ih =>
  rcases ih with h | ⟨k, h1, h2, h3⟩
  ·by_cases hn : f n = 0
   ·exact .inl fun j hj => by
     by_cases e : j = n
     ·rw [e]; exact hn
     ·exact h j (by omega)
   ·exact .inr ⟨n, by omega, hn, h⟩
  ·exact .inr ⟨k, by omega, h2, h3⟩
theorem firstE_cases (f : Nat → Int) (n : Nat) : (firstE f n = none ∧ (∀ c, (List.range n).findSome? (errG c f) = none) ∧ ∀ j, j < n → f j = 0) ∨
  ∃ k, k < n ∧ f k ≠ 0 ∧ firstE f n = some ((k : Int), f k) ∧ (∀ c, (List.range n).findSome? (errG c f) = some (c, (k : Int), f k)) := by
 rcases first_fail (f := f) n with h | ⟨k, h1, h2, h3⟩
 ·exact .inl ⟨find_none fun j hj => if_pos (h j hj), fun c => find_none fun j hj => if_pos (h j hj), h⟩
 ·exact .inr ⟨k, h1, h2, find_range h1 (fun j hj => if_pos (h3 j hj)) (if_neg h2), fun c => find_range h1 (fun j hj => if_pos (h3 j hj)) (if_neg h2)⟩
theorem loopR {c : Int} {f : Nat → Int} {n : Nat} {k : Unit → Option (Int × Int × Int)} : seqx (some (scanX (errG c f) n)) k = match firstE f n with | some p => some (c, p.1, p.2) | none => k () := by
 rw [seqx_scan]
 rcases firstE_cases f n with ⟨h1, h2, h3⟩ | ⟨i, h1, h2, h3, h4⟩
 ·rw [h1, h2 c]
 ·rw [h3, h4 c]
theorem loopS {c : Int} {f : Nat → Int} {n : Nat} {k : Option (Int × Int × Int)} {K : Int × Int → Option (Int × Int × Int)} (hK : ∀ p, K p = if ¬ p.2 = 0 then some (c, p.1, p.2) else k) :
  andx (seqx (some (scanX (errF f) n)) fun _ => some (0, 0)) K = match firstE f n with | some p => some (c, p.1, p.2) | none => k := by
 rw [seqx_scan]
 rcases firstE_cases f n with ⟨h1, h2, h3⟩ | ⟨i, h1, h2, h3, h4⟩
 ·rw [h1, show (List.range n).findSome? (errF f) = none from h1]
  show K (0, 0) = k;rw [hK, if_neg (not_not_intro rfl)]
 ·rw [h3, show (List.range n).findSome? (errF f) = _ from h3]
  show K _ = _;rw [hK, if_pos h2]
theorem body_err {A : Type} {e : Int} {v : A} {k : Nat} (hk : k ≤ 1000) : (if ¬ e = 0 then some (Stp.dn (Ex.rt v)) else chk (I64 ((k : Int) + 1)) (some (Stp.ag ((k : Int) + 1)))) = some (scanS ((k : Int) + 1) (if e = 0 then (none : Option A) else some v)) := by
 rw [chk_pos (i64_small (by omega))]
 by_cases h : e = 0
 ·rw [if_neg (not_not_intro h), if_pos h]; rfl
 ·rw [if_pos h, if_neg h]; rfl
theorem take_sub {α : Type} (l : List α) (k : Nat) : List.take ((k : Int) - (0 : Int)).toNat (List.drop ((0 : Int) : Int).toNat l) = l.take k := by
 simp
theorem r9_L1_eq {cl : List Str} (hl : cl.length ≤ 1000) : iter (P_r9_Check_L1 cl) 0 = some (scanX (errG 1 (errAt cl (clErr cl))) cl.length) := by
 refine iter_scanI _ _ (fun k hk _ => ?_) (fun _ => ?_)
 ·unfold P_r9_Check_L1;obtain ⟨a, ha⟩ := get_some hk;rw [if_pos (by omega), el_at ha, chk_pos (by omega), take_sub, r1_Fresh_eq _ _ _ hl, andx_some', body_err (by omega)];unfold errG;rw [errAt_of ha]
 ·unfold P_r9_Check_L1;rw [if_neg (by omega)]
def clHit (l : List Str) (w : Str) (i : Nat) : Prop := ∃ a, l[i]? = some a ∧ w = a
def clMiss (l : List Str) (w : Str) (i : Nat) : Prop := ¬ clHit l w i
open Classical in
theorem s9_L2_eq {cl : List Str} {k : Nat} {w : Str} (hl : cl.length ≤ 1000) : iter (P_s9_Check_L2 cl (k : Int) w) 0 = some (scanX (fun i => if clMiss (cl.take k) w i then none else some (i : Int)) (cl.take k).length) := by
 have hle : (cl.take k).length ≤ 1000 := by rw [List.length_take]; omega
 refine iter_scanI _ _ (fun j hj _ => ?_) (fun _ => ?_)
 ·unfold P_s9_Check_L2;rw [take_sub];obtain ⟨a, ha⟩ := get_some hj;rw [if_pos (by omega), el_at ha, chk_pos (i64_small (by omega))]
  by_cases h : w = a
  ·rw [if_pos h, if_neg (show ¬ clMiss _ _ _ from not_not_intro ⟨a, ha, h⟩)]; rfl
  ·rw [if_neg h, if_pos (show clMiss _ _ _ from fun ⟨a', ha', hs'⟩ => by rw [ha] at ha'; cases ha'; exact h hs')]; rfl
 ·unfold P_s9_Check_L2;rw [take_sub, if_neg (by omega)]
open Classical in
theorem s9_L1_eq {cl : List Str} (hl : cl.length ≤ 1000) : iter (P_s9_Check_L1 cl) 0 = some (scanX (errF (errAt cl (clErr cl))) cl.length) := by
 refine iter_scanI _ _ (fun k hk _ => ?_) (fun _ => ?_)
 ·unfold P_s9_Check_L1;obtain ⟨a, ha⟩ := get_some hk;rw [if_pos (by omega), el_at ha]
  have e : (andx (P_q_Name a) fun y8 => if y8 = true then chk (0 ≤ (0 : Int) ∧ (0 : Int) ≤ (k : Int) ∧ (k : Int) ≤ (cl.length : Int)) (andx (seqx (iter (P_s9_Check_L2 cl (k : Int) a) 0) fun _ => some (-1)) fun y7 => if y7 ≥ 0 then some 5 else some 0) else some 6) = some (clErr cl k a) := by
   rw [q_Name_eq, andx_some'];unfold clErr
   by_cases hn : isName a
   ·rw [decide_eq_true hn, if_pos rfl, if_pos hn, chk_pos (by omega), s9_L2_eq hl, seqx_scan]
    rcases find_idx (P := clMiss (cl.take k) a) (n := (cl.take k).length) with ⟨h, e⟩ | ⟨h, i, hi, e⟩
    ·rw [e, if_neg]
     ·rfl
     ·intro hm;obtain ⟨j, hj⟩ := List.getElem?_of_mem hm;exact h j (List.getElem?_eq_some_iff.1 hj).1 ⟨a, hj, rfl⟩
    ·rw [e, if_pos]
     ·show (if i ≥ 0 then _ else _) = _;rw [if_pos (by omega)]
     ·refine Classical.byContradiction fun hn => h fun j hj ⟨a', ha', hs⟩ => hn ?_
      rw [hs];exact List.mem_of_getElem? ha'
   ·rw [decide_eq_false hn, if_neg (by decide), if_neg hn]
  rw [e, andx_some', body_err (by omega)];unfold errF;rw [errAt_of ha]
 ·unfold P_s9_Check_L1;rw [if_neg (by omega)]
open Classical in
theorem r9_L2_eq {sh : List qH} (hl : sh.length ≤ 1000) : iter (P_r9_Check_L2 sh) 0 = some (scanX (errG 2 (errAt sh fun _ => shErr)) sh.length) := by
 refine iter_scanI _ _ (fun k hk _ => ?_) (fun _ => ?_)
 ·unfold P_r9_Check_L2;obtain ⟨a, ha⟩ := get_some hk;rw [if_pos (by omega), el_at ha, chk_pos (i64_small (by omega))];simp only [r9_in_eq];unfold errG;rw [errAt_of ha];unfold shErr
  by_cases h1 : 0 ≤ a.away ∧ a.away ≤ 1000
  ·by_cases h2 : 0 ≤ a.climb ∧ a.climb ≤ 1000
   ·by_cases h3 : 1 ≤ a.wide ∧ a.wide ≤ 2000
    ·by_cases h4 : 1 ≤ a.high ∧ a.high ≤ 2000
     ·rw [if_pos (show shOk a from ⟨⟨h1, h2⟩, h3, h4⟩)];simp [andx, seqx, scanS, h1, h2, h3, h4]
     ·rw [if_neg (show ¬ shOk a from fun h => h4 h.2.2)];simp only [andx, seqx, scanS, decide_eq_true h1, decide_eq_true h2, decide_eq_true h3, decide_eq_false h4]; rfl
    ·rw [if_neg (show ¬ shOk a from fun h => h3 h.2.1)];simp only [andx, seqx, scanS, decide_eq_true h1, decide_eq_true h2, decide_eq_false h3]; rfl
   ·rw [if_neg (show ¬ shOk a from fun h => h2 h.1.2)];simp only [andx, seqx, scanS, decide_eq_true h1, decide_eq_false h2]; rfl
  ·rw [if_neg (show ¬ shOk a from fun h => h1 h.1.1)];simp only [andx, seqx, scanS, decide_eq_false h1]; rfl
 ·unfold P_r9_Check_L2;rw [if_neg (by omega)]
open Classical in
theorem s9_L3_eq {sh : List qH} (hl : sh.length ≤ 1000) : iter (P_s9_Check_L3 sh) 0 = some (scanX (errF (errAt sh fun _ => shErr)) sh.length) := by
 refine iter_scanI _ _ (fun k hk _ => ?_) (fun _ => ?_)
 ·unfold P_s9_Check_L3;obtain ⟨a, ha⟩ := get_some hk;rw [if_pos (by omega), el_at ha];simp only [s9_out2, andx_some'];rw [show (seqx (andx (if decide (¬ (btw 0 1000 a.away ∧ btw 0 1000 a.climb)) = true then some true else some (decide (¬ (btw 1 2000 a.wide ∧ btw 1 2000 a.high)))) fun x18 => if x18 = true then some (Ex.rt 7) else some (Ex.nx ())) fun _ => some 0) = some (shErr a) from ?_, andx_some', body_err (by omega)]
  ·unfold errF;rw [errAt_of ha]
  ·unfold shErr
   by_cases h1 : btw 0 1000 a.away ∧ btw 0 1000 a.climb
   ·rw [decide_eq_false (not_not_intro h1), if_neg (by decide)]
    by_cases h2 : btw 1 2000 a.wide ∧ btw 1 2000 a.high
    ·rw [decide_eq_false (not_not_intro h2), if_pos (show shOk a from ⟨h1, h2⟩)]; rfl
    ·rw [decide_eq_true h2, if_neg (show ¬ shOk a from fun h => h2 h.2)]; rfl
   ·rw [decide_eq_true h1, if_pos rfl, if_neg (show ¬ shOk a from fun h => h1 h.1)]; rfl
 ·unfold P_s9_Check_L3;rw [if_neg (by omega)]
def below (bs : List qA) (i : Nat) (b : qA) : Prop := 0 < i ∧ ∃ c, bs[i - 1]? = some c ∧ b.shelf < c.shelf
noncomputable def bkE0 (ncl : Nat) (bs : List qA) (i : Nat) (b : qA) : Int := bkErr1 ncl b.qR b.qS b.qQ b.wide b.high b.heavy (bs.take i)
open Classical in
noncomputable def bkErr (ncl nsh : Nat) (bs : List qA) (i : Nat) (b : qA) : Int :=
 if bkE0 ncl bs i b = 0 then (if btw 0 ((nsh : Int) - 1) b.shelf then (if below bs i b then 2 else 0) else 4) else bkE0 ncl bs i b
open Classical in
theorem below_eq {bs : List qA} {k : Nat} {b : qA} (hl : bs.length ≤ 1000) (hk : k < bs.length) :
  (if (k : Int) > 0 then chk (I64 ((k : Int) - 1)) (el bs ((k : Int) - 1) fun a => some (decide (b.shelf < a.shelf))) else some false) = some (decide (below bs k b)) := by
 by_cases h : (k : Int) > 0
 ·rw [if_pos h, chk_pos (i64_small (by omega))];obtain ⟨a, ha⟩ := get_some (l := bs) (k := k - 1) (by omega)
  have e : (k : Int) - 1 = ((k - 1 : Nat) : Int) := by omega
  rw [e, el_at ha]
  congr 1
  refine decide_eq_decide.2 ⟨fun h' => ⟨by omega, a, ha, h'⟩, fun ⟨_, c, hc, h'⟩ => by rw [ha] at hc; cases hc; exact h'⟩
 ·rw [if_neg h, decide_eq_false];exact fun h' => h (by have := h'.1; omega)
open Classical in
theorem r9_L3_eq {cl : List Str} {sh : List qH} {bs : List qA} (hc : cl.length ≤ 1000) (hs : sh.length ≤ 1000) (hl : bs.length ≤ 1000) :
  iter (P_r9_Check_L3 cl sh bs) 0 = some (scanX (errG 3 (errAt bs (bkErr cl.length sh.length bs))) bs.length) := by
 refine iter_scanI _ _ (fun k hk _ => ?_) (fun _ => ?_)
 ·unfold P_r9_Check_L3;obtain ⟨b, hb⟩ := get_some hk;rw [if_pos (by omega), el_at hb, chk_pos (by omega), take_sub, r9_Book_eq hc (by rw [List.length_take]; omega), andx_some', chk_pos (show I64 ((sh.length : Int) - 1) from i64_small (by omega)), chk_pos (show I64 ((k : Int) + 1) from i64_small (by omega))];rw [below_eq hl hk];unfold errG;rw [errAt_of hb];unfold bkErr
  change _ = some (scanS _ _)
  rw [show bkErr1 cl.length b.qR b.qS b.qQ b.wide b.high b.heavy (bs.take k) = bkE0 cl.length bs k b from rfl];simp only [r9_in_eq];generalize bkE0 cl.length bs k b = e0
  by_cases h0 : e0 = 0
  ·subst h0
   by_cases h1 : btw 0 ((sh.length : Int) - 1) b.shelf
   ·have h1' : 0 ≤ b.shelf ∧ b.shelf ≤ (sh.length : Int) - 1 := h1
    by_cases h2 : below bs k b
    ·simp only [h1, h1', h2, if_true, andx, seqx, decide_true, Bool.not_true, Bool.false_eq_true, if_false, scanS, and_self]; rfl
    ·simp only [h1, h1', h2, if_true, andx, seqx, decide_true, decide_false, Bool.not_true, Bool.false_eq_true, if_false, scanS, and_self]; rfl
   ·have h1' : ¬ (0 ≤ b.shelf ∧ b.shelf ≤ (sh.length : Int) - 1) := h1;simp only [h1, h1', if_true, andx, seqx, decide_false, Bool.not_false, Bool.false_eq_true, if_false, scanS]; rfl
  ·simp only [h0, if_false, andx, seqx, Bool.false_eq_true, not_false_iff, if_true, scanS]
 ·unfold P_r9_Check_L3;rw [if_neg (by omega)]
open Classical in
theorem s9_L4_eq {cl : List Str} {sh : List qH} {bs : List qA} (hc : cl.length ≤ 1000) (hs : sh.length ≤ 1000) (hl : bs.length ≤ 1000) :
  iter (P_s9_Check_L4 cl sh bs) 0 = some (scanX (errF (errAt bs (bkErr cl.length sh.length bs))) bs.length) := by
 refine iter_scanI _ _ (fun k hk _ => ?_) (fun _ => ?_)
 ·unfold P_s9_Check_L4;obtain ⟨b, hb⟩ := get_some hk;rw [if_pos (by omega), el_at hb, chk_pos (by omega), take_sub, s9_book_eq hc (by rw [List.length_take]; omega), andx_some', chk_pos (i64_small (by omega)), s9_out1, andx_some'];rw [below_eq hl hk]
  have e : (seqx (if ¬ bkE0 cl.length bs k b = 0 then some (Ex.rt (bkE0 cl.length bs k b)) else if decide (¬ btw 0 ((sh.length : Int) - 1) b.shelf) = true then some (Ex.rt 4) else andx (some (decide (below bs k b))) fun x28 => if x28 = true then some (Ex.rt 2) else some (Ex.nx ())) fun (_ : Unit) => some 0) = some (bkErr cl.length sh.length bs k b) := by
   unfold bkErr;generalize bkE0 cl.length bs k b = e0
   by_cases h0 : e0 = 0
   ·rw [if_neg (not_not_intro h0), if_pos h0]
    by_cases h1 : btw 0 ((sh.length : Int) - 1) b.shelf
    ·rw [decide_eq_false (not_not_intro h1), if_neg (by decide), if_pos h1]
     by_cases h2 : below bs k b
     ·rw [decide_eq_true h2, if_pos h2]; rfl
     ·rw [decide_eq_false h2, if_neg h2]; rfl
    ·rw [decide_eq_true h1, if_pos rfl, if_neg h1]; rfl
   ·rw [if_pos h0, if_neg h0]; rfl
  refine (congrArg (fun z => andx z _) e).trans ?_;rw [andx_some', body_err (by omega)];unfold errF;rw [errAt_of hb]
 ·unfold P_s9_Check_L4;rw [if_neg (by omega)]
end Go.Am
end
section
namespace Go.Am
set_option linter.unusedVariables false
set_option linter.unusedSimpArgs false
def wideOn (i : Int) : List qA → Int
 | [] => 0
 | b :: r => (if b.shelf = i then b.wide else 0) + wideOn i r
theorem wideOn_append (i : Int) (l r : List qA) : wideOn i (l ++ r) = wideOn i l + wideOn i r := by
 induction l with
 | nil => simp [wideOn]
 | cons b l ih => simp [wideOn, ih]; omega
def Wides (l : List qA) : Prop := ∀ b ∈ l, 1 ≤ b.wide ∧ b.wide ≤ 2000
theorem wideOn_nonneg {i : Int} {l : List qA} (h : Wides l) : 0 ≤ wideOn i l ∧ wideOn i l ≤ 2000 * l.length := by
 induction l with
 | nil => simp [wideOn]
 | cons b l ih =>
  have h1 := ih fun c hc => h c (by simp [hc])
  have h2 := h b (by simp);simp only [wideOn, List.length_cons];split <;> omega
theorem take_step {α : Type} {l : List α} {k : Nat} {a : α} (h : l[k]? = some a) : l.take (k + 1) = l.take k ++ [a] := by rw [List.take_add_one, h]; rfl
theorem wideOn_step {i : Int} {l : List qA} {k : Nat} {b : qA} (h : l[k]? = some b) : wideOn i (l.take (k + 1)) = wideOn i (l.take k) + (if b.shelf = i then b.wide else 0) := by
 rw [take_step h, wideOn_append];simp [wideOn]
theorem wideOn_le {i : Int} {l : List qA} (h : Wides l) (k : Nat) : wideOn i (l.take k) ≤ wideOn i l := by
 have e : wideOn i l = wideOn i (l.take k) + wideOn i (l.drop k) := by rw [← wideOn_append, List.take_append_drop]
 have := (wideOn_nonneg (i := i) (l := l.drop k) fun b hb => h b (List.mem_of_mem_drop hb)).1;omega
theorem wideOn_take {i : Int} {l : List qA} (h : Wides l) (k : Nat) : 0 ≤ wideOn i (l.take k) ∧ wideOn i (l.take k) ≤ 2000 * l.length := by
 have h1 := wideOn_nonneg (i := i) (l := l.take k) fun b hb => h b (List.mem_of_mem_take hb)
 have h2 := wideOn_le (i := i) h k
 have h3 := (wideOn_nonneg (i := i) h).2;omega
def lowOn (i : Int) (high : Int) (l : List qA) : Prop := ∀ b ∈ l, b.shelf = i → b.high ≤ high
def fits (bs : List qA) (i : Nat) (a : qH) : Prop := lowOn i a.high bs ∧ wideOn i bs ≤ a.wide
open Classical in
noncomputable def fitErr (bs : List qA) (i : Nat) (a : qH) : Int := if fits bs i a then 0 else 9
theorem lowOn_step {i high : Int} {l : List qA} {k : Nat} {b : qA} (h : l[k]? = some b) (h1 : lowOn i high (l.take k)) (h2 : b.shelf = i → b.high ≤ high) : lowOn i high (l.take (k + 1)) := by
 rw [take_step h];intro c hc hs
 rcases List.mem_append.1 hc with hc | hc
 ·exact h1 c hc hs
 ·rw [List.mem_singleton] at hc; subst hc; exact h2 hs
theorem r9_Own_eq {bs : List qA} (hl : bs.length ≤ 1000) : P_r9_Own bs = some (bs.map (·.shelf)) := by
 refine Ok.get ?_;unfold P_r9_Own;refine Ok.andx (P := fun r => r = bs.map (·.shelf)) ?_ (fun r hr => .some hr);refine Ok.count (fun (x : Int × List Int) => x.1) bs.length (fun k x => x.2 = (bs.take k).map (·.shelf)) rfl rfl ?_ ?_
 ·rintro k ⟨i, out⟩ hk hx hI;simp only at hx hI;subst hx;unfold P_r9_Own_L1;obtain ⟨b, hb⟩ := get_some hk
  show Ok (if _ then _ else _) _;rw [if_pos (by omega), el_at hb];refine .chk ?_ (.chk (i64_small (by omega)) (.some ⟨rfl, ?_⟩))
  ·rw [hI, List.length_map, List.length_take]; simp; omega
  ·show out ++ [b.shelf] = _;rw [take_step hb, List.map_append, hI]; rfl
 ·rintro ⟨i, out⟩ hx hI;simp only at hx hI;subst hx;unfold P_r9_Own_L1
  show Ok (if _ then _ else _) _;rw [if_neg (by omega)];refine .some ?_
  show out = _;rw [hI, List.take_length]
open Classical in
theorem r9_fit_eq {cl : List Str} {sh : List qH} {bs : List qA} {i : Nat} {a : qH} (ha : sh[i]? = some a) (hw : 0 ≤ a.wide) (hb : Wides bs) (hl : bs.length ≤ 1000) :
  P_r9_fit cl sh bs bs (bs.map (·.shelf)) (i : Int) = some (decide (fits bs i a)) := by
 refine Ok.get ?_;unfold P_r9_fit;rw [el_at ha];refine Ok.andx (P := fun y => (0 ≤ y ∧ lowOn i a.high bs ∧ y = wideOn i bs) ∨ (y < 0 ∧ ¬ lowOn i a.high bs)) ?_ ?_
 ·unfold P_r9_Filled;refine Ok.seqx ?_;refine Ok.count (fun (x : Int × Int) => x.2) bs.length (fun k x => x.1 = wideOn i (bs.take k) ∧ lowOn i a.high (bs.take k)) rfl ⟨rfl, fun b hb => by simp at hb⟩ ?_ ?_
  ·rintro k ⟨n, j⟩ hk hx ⟨h1, h2⟩;simp only at hx h1 h2;subst hx;obtain ⟨b, hbk⟩ := get_some hk
   have hm : (bs.map (·.shelf))[k]? = some b.shelf := by rw [List.getElem?_map, hbk]; rfl
   unfold P_r9_Filled_L1
   show Ok (if _ then _ else _) _
   have hk1 := wideOn_take (i := i) hb k
   have hk2 := wideOn_take (i := i) hb (k + 1)
   have hst := wideOn_step (i := i) hbk;rw [if_pos (by omega)];refine Ok.seqx ?_;rw [el_at hm]
   by_cases hs : b.shelf = i
   ·rw [if_pos hs] at hst;rw [if_neg (not_not_intro hs), el_at hbk, el_at ha, el_at hbk]
    by_cases hh : b.high > a.high
    ·rw [if_pos hh];refine .some ?_
     show _ ∨ _;refine .inr ⟨by omega, fun h => ?_⟩
     have := h b (List.mem_of_getElem? hbk) hs;omega
    ·rw [if_neg hh];refine .chk (i64_small (by omega)) (.some (.chk (i64_small (by omega)) (.some ⟨rfl, ?_, lowOn_step hbk h2 fun _ => by omega⟩)))
     show n + b.wide = _;omega
   ·rw [if_neg hs] at hst;rw [if_pos hs];refine .some (.chk (i64_small (by omega)) (.some ⟨rfl, ?_, lowOn_step hbk h2 fun h => absurd h hs⟩))
    show n = _;omega
  ·rintro ⟨n, j⟩ hx ⟨h1, h2⟩;simp only at hx h1 h2;subst hx;unfold P_r9_Filled_L1
   show Ok (if _ then _ else _) _;rw [if_neg (by omega)];rw [List.take_length] at h1 h2;refine .some (.some (.inl ⟨?_, h2, h1⟩));rw [h1];exact (wideOn_nonneg hb).1
 ·rintro y hy;rw [r9_in_eq, andx_some'];refine .some ?_;refine decide_eq_decide.2 ?_
  rcases hy with ⟨h0, h1, h2⟩ | ⟨h1, h2⟩
  ·subst h2;exact ⟨fun h => ⟨h1, h.2⟩, fun h => ⟨h0, h.2⟩⟩
  ·exact ⟨fun h => by omega, fun h => absurd h.1 h2⟩
open Classical in
theorem s9_L6_eq {sh : List qH} {bs : List qA} {i : Nat} {a : qH} (hw : 0 ≤ a.wide ∧ a.wide ≤ 2000) (hb : Wides bs) (hl : bs.length ≤ 1000) :
  (seqx (iter (P_s9_Check_L6 bs (i : Int) a) (0, a.wide)) fun s_Wide => some 0) = some (fitErr bs i a) := by
 refine Ok.get ?_;refine Ok.seqx ?_;refine Ok.count (fun (x : Int × Int) => x.1) bs.length (fun k x => x.2 = a.wide - wideOn i (bs.take k) ∧ 0 ≤ x.2 ∧ lowOn i a.high (bs.take k)) rfl ⟨?_, hw.1, fun b hb => by simp at hb⟩ ?_ ?_
 ·show a.wide = a.wide - 0; omega
 ·rintro k ⟨j, n⟩ hk hx ⟨h1, h0, h2⟩;simp only at hx h1 h2 h0;subst hx;obtain ⟨b, hbk⟩ := get_some hk;unfold P_s9_Check_L6
  show Ok (if _ then _ else _) _
  have hk1 := wideOn_take (i := i) hb k
  have hk2 := wideOn_take (i := i) hb (k + 1)
  have hle := wideOn_le (i := i) hb (k + 1)
  have hst := wideOn_step (i := i) hbk
  have hbw := hb b (List.mem_of_getElem? hbk);rw [if_pos (by omega)];refine Ok.seqx ?_;rw [el_at hbk]
  by_cases hs : b.shelf = i
  ·rw [if_pos hs] at hst;rw [if_neg (not_not_intro hs), chk_pos (i64_small (by omega))]
   by_cases hn : n - b.wide < 0
   ·rw [if_pos hn, andx_some', if_pos rfl];refine .some ?_
    show 9 = fitErr bs i a;unfold fitErr;rw [if_neg fun h => ?_]
    have := h.2;omega
   ·rw [if_neg hn, andx_some']
    by_cases hh : b.high > a.high
    ·rw [decide_eq_true hh, if_pos rfl];refine .some ?_
     show 9 = fitErr bs i a;unfold fitErr;rw [if_neg fun h => ?_]
     have := h.1 b (List.mem_of_getElem? hbk) hs;omega
    ·rw [decide_eq_false hh, if_neg (by decide)];refine .some (.chk (i64_small (by omega)) (.some ⟨rfl, ?_, ?_, lowOn_step hbk h2 fun _ => by omega⟩))
     ·show n - b.wide = _; omega
     ·show 0 ≤ n - b.wide; omega
  ·rw [if_neg hs] at hst;rw [if_pos hs];refine .some (.chk (i64_small (by omega)) (.some ⟨rfl, ?_, h0, lowOn_step hbk h2 fun h => absurd h hs⟩))
   show n = _;omega
 ·rintro ⟨j, n⟩ hx ⟨h1, h0, h2⟩;simp only at hx h1 h2 h0;subst hx;unfold P_s9_Check_L6
  show Ok (if _ then _ else _) _;rw [if_neg (by omega)];rw [List.take_length] at h1 h2;refine .some (.some ?_)
  show 0 = fitErr bs i a;unfold fitErr;rw [if_pos ⟨h2, by omega⟩]
def ShOk (sh : List qH) : Prop := ∀ (j : Nat) (a : qH), sh[j]? = some a → 0 ≤ a.wide ∧ a.wide ≤ 2000
open Classical in
theorem r9_L4_eq {cl : List Str} {sh : List qH} {bs : List qA} (hs : sh.length ≤ 1000) (hsh : ShOk sh) (hb : Wides bs) (hl : bs.length ≤ 1000) :
  iter (P_r9_Check_L4 cl sh bs) 0 = some (scanX (errG 4 (errAt sh (fitErr bs))) sh.length) := by
 refine iter_scanI _ _ (fun k hk _ => ?_) (fun _ => ?_)
 ·unfold P_r9_Check_L4;obtain ⟨a, ha⟩ := get_some hk
  have hw := hsh k a ha;rw [if_pos (by omega), r9_Own_eq hl, andx_some', r9_fit_eq ha hw.1 hb hl, andx_some', chk_pos (i64_small (by omega))];unfold errG;rw [errAt_of ha];unfold fitErr
  by_cases h : fits bs k a
  ·rw [decide_eq_true h, if_pos h]; rfl
  ·rw [decide_eq_false h, if_neg h]; rfl
 ·unfold P_r9_Check_L4;rw [if_neg (by omega)]
theorem s9_L5_eq {sh : List qH} {bs : List qA} (hs : sh.length ≤ 1000) (hsh : ShOk sh) (hb : Wides bs) (hl : bs.length ≤ 1000) :
  iter (P_s9_Check_L5 sh bs) 0 = some (scanX (errF (errAt sh (fitErr bs))) sh.length) := by
 refine iter_scanI _ _ (fun k hk _ => ?_) (fun _ => ?_)
 ·unfold P_s9_Check_L5;obtain ⟨a, ha⟩ := get_some hk
  have hw := hsh k a ha;rw [if_pos (by omega), el_at ha, s9_L6_eq (sh := sh) hw hb hl, andx_some', body_err (by omega)];unfold errF;rw [errAt_of ha]
 ·unfold P_s9_Check_L5;rw [if_neg (by omega)]
noncomputable def roomE (cl : List Str) (sh : List qH) (bs : List qA) : Option (Int × Int × Int) :=
 if 1 ≤ cl.length ∧ cl.length ≤ 6 then
  match firstE (errAt cl (clErr cl)) cl.length with
  | some p => some (1, p.1, p.2)
  | none =>
   if 1 ≤ sh.length ∧ sh.length ≤ 4 then
    match firstE (errAt sh fun _ => shErr) sh.length with
    | some p => some (2, p.1, p.2)
    | none =>
     if bs.length ≤ 10 then
      match firstE (errAt bs (bkErr cl.length sh.length bs)) bs.length with
      | some p => some (3, p.1, p.2)
      | none =>
       match firstE (errAt sh (fitErr bs)) sh.length with
       | some p => some (4, p.1, p.2)
       | none => some (0, 0, 0)
     else some (3, 0, 3)
   else some (2, 0, 3)
 else some (1, 0, 3)
theorem shErr_zero {a : qH} (h : shErr a = 0) : shOk a := by
 unfold shErr at h;split at h
 ·assumption
 ·cases h
theorem bkErr_zero {ncl nsh : Nat} {bs : List qA} {i : Nat} {b : qA} (h : bkErr ncl nsh bs i b = 0) : bkRange b.wide b.high b.heavy ∧ btw 0 ((nsh : Int) - 1) b.shelf ∧ ¬ below bs i b ∧ ¬ twice (bs.take i) b.qR b.qS b.qQ ∧ mkErr ncl b.qR b.qS b.qQ = 0 := by
 unfold bkErr at h;split at h
 ·rename_i h0
  split at h
  ·rename_i h1
   split at h
   ·cases h
   ·rename_i h2
    unfold bkE0 bkErr1 at h0;split at h0
    ·rename_i h3
     split at h0
     ·rename_i h4
      split at h0
      ·cases h0
      ·rename_i h5
       exact ⟨h4, h1, h2, h5, h3⟩
     ·cases h0
    ·rename_i h3; exact absurd h0 h3
  ·cases h
 ·rename_i h0; exact absurd h h0
theorem shOk_all {sh : List qH} (h : ∀ j, j < sh.length → errAt sh (fun _ => shErr) j = 0) {j : Nat} {a : qH} (ha : sh[j]? = some a) : shOk a := by
 have := h j (List.getElem?_eq_some_iff.1 ha).1;rw [errAt_of ha] at this;exact shErr_zero this
theorem bk_all {ncl nsh : Nat} {bs : List qA} (h : ∀ j, j < bs.length → errAt bs (bkErr ncl nsh bs) j = 0) {j : Nat} {b : qA} (hb : bs[j]? = some b) : bkErr ncl nsh bs j b = 0 := by
 have := h j (List.getElem?_eq_some_iff.1 hb).1
 rwa [errAt_of hb] at this
theorem wides_all {ncl nsh : Nat} {bs : List qA} (h : ∀ j, j < bs.length → errAt bs (bkErr ncl nsh bs) j = 0) : Wides bs := fun b hb => by
 obtain ⟨j, hj⟩ := List.getElem?_of_mem hb;exact (bkErr_zero (bk_all h hj)).1.1
open Classical in
theorem r9_Check_eq (cl : List Str) (sh : List qH) (bs : List qA) : P_r9_Check cl sh bs = roomE cl sh bs := by
 unfold P_r9_Check roomE;rw [r9_in_eq, andx_some']
 by_cases h1 : 1 ≤ cl.length ∧ cl.length ≤ 6
 ·rw [if_pos h1, decide_eq_true (by omega), if_pos rfl, r9_L1_eq (by omega), loopR]
  rcases firstE_cases (errAt cl (clErr cl)) cl.length with ⟨e, _, _⟩ | ⟨_, _, _, e, _⟩
  rotate_left
  ·rw [e]
  rw [e]
  show andx _ _ = _;rw [r9_in_eq, andx_some']
  by_cases h2 : 1 ≤ sh.length ∧ sh.length ≤ 4
  ·rw [if_pos h2, decide_eq_true (by omega), if_pos rfl, r9_L2_eq (by omega), loopR]
   rcases firstE_cases (errAt sh fun _ => shErr) sh.length with ⟨e, _, hsh⟩ | ⟨_, _, _, e, _⟩
   rotate_left
   ·rw [e]
   rw [e]
   show (if _ then _ else _) = _
   by_cases h3 : bs.length ≤ 10
   ·rw [if_neg (by omega), r9_L3_eq (by omega) (by omega) (by omega), loopR]
    show _ = if _ then _ else _;rw [if_pos h3]
    rcases firstE_cases (errAt bs (bkErr cl.length sh.length bs)) bs.length with ⟨e, _, hbs⟩ | ⟨_, _, _, e, _⟩
    rotate_left
    ·rw [e]
    rw [e]
    show seqx _ _ = _;rw [r9_L4_eq (by omega) (fun j a ha => by have := (shOk_all hsh ha).2.1; unfold btw at this; omega) (wides_all hbs) (by omega), loopR] <;> rfl
   ·rw [if_pos (by omega)]
    show _ = if _ then _ else _;rw [if_neg h3]
  ·rw [if_neg h2, decide_eq_false (by omega), if_neg (by decide)]
 ·rw [if_neg h1, decide_eq_false (by omega), if_neg (by decide)]
open Classical in
theorem s9_Check_eq (cl : List Str) (sh : List qH) (bs : List qA) : P_s9_Check cl sh bs = roomE cl sh bs := by
 unfold P_s9_Check roomE;rw [s9_out1, andx_some']
 by_cases h1 : 1 ≤ cl.length ∧ cl.length ≤ 6
 ·rw [if_pos h1, decide_eq_false (not_not_intro (show btw 1 6 (cl.length : Int) from ⟨by omega, by omega⟩)), if_neg (by decide), s9_L1_eq (by omega), loopS (c := 1) (fun _ => rfl)]
  rcases firstE_cases (errAt cl (clErr cl)) cl.length with ⟨e, _, _⟩ | ⟨_, _, _, e, _⟩
  rotate_left
  ·rw [e]
  rw [e]
  show andx _ _ = _;rw [s9_out1, andx_some']
  by_cases h2 : 1 ≤ sh.length ∧ sh.length ≤ 4
  ·rw [if_pos h2, decide_eq_false (not_not_intro (show btw 1 4 (sh.length : Int) from ⟨by omega, by omega⟩)), if_neg (by decide), s9_L3_eq (by omega), loopS (c := 2) (fun _ => rfl)]
   rcases firstE_cases (errAt sh fun _ => shErr) sh.length with ⟨e, _, hsh⟩ | ⟨_, _, _, e, _⟩
   rotate_left
   ·rw [e]
   rw [e]
   show (if _ then _ else _) = _
   by_cases h3 : bs.length ≤ 10
   ·rw [if_neg (by omega), s9_L4_eq (by omega) (by omega) (by omega), loopS (c := 3) (fun _ => rfl)]
    show _ = if _ then _ else _;rw [if_pos h3]
    rcases firstE_cases (errAt bs (bkErr cl.length sh.length bs)) bs.length with ⟨e, _, hbs⟩ | ⟨_, _, _, e, _⟩
    rotate_left
    ·rw [e]
    rw [e]
    show andx _ _ = _;rw [s9_L5_eq (by omega) (fun j a ha => by have := (shOk_all hsh ha).2.1; unfold btw at this; omega) (wides_all hbs) (by omega), loopS (c := 4) (fun _ => rfl)] <;> rfl
   ·rw [if_pos (by omega)]
    show _ = if _ then _ else _;rw [if_neg h3]
  ·rw [if_neg h2, decide_eq_true (show ¬ btw 1 4 (sh.length : Int) from fun h => h2 (by unfold btw at h; omega)), if_pos rfl]
 ·rw [if_neg h1, decide_eq_true (show ¬ btw 1 6 (cl.length : Int) from fun h => h1 (by unfold btw at h; omega)), if_pos rfl]
end Go.Am
end
section
namespace Go.Am
set_option linter.unusedVariables false
set_option linter.unusedSimpArgs false
structure Fine (cl : List Str) (sh : List qH) (bs : List qA) : Prop where
 cl1 : 1 ≤ cl.length ∧ cl.length ≤ 6
 cl2 : ∀ j, j < cl.length → errAt cl (clErr cl) j = 0
 sh1 : 1 ≤ sh.length ∧ sh.length ≤ 4
 sh2 : ∀ j, j < sh.length → errAt sh (fun _ => shErr) j = 0
 bs1 : bs.length ≤ 10
 bs2 : ∀ j, j < bs.length → errAt bs (bkErr cl.length sh.length bs) j = 0
 fit : ∀ j, j < sh.length → errAt sh (fitErr bs) j = 0
theorem roomE_ok (cl : List Str) (sh : List qH) (bs : List qA) : ∃ c i e, roomE cl sh bs = some (c, i, e) ∧ (e = 0 ↔ Fine cl sh bs) := by
 unfold roomE
 by_cases h1 : 1 ≤ cl.length ∧ cl.length ≤ 6
 ·rw [if_pos h1]
  rcases firstE_cases (errAt cl (clErr cl)) cl.length with ⟨e, _, h2⟩ | ⟨k, hk, hne, e, _⟩
  rotate_left
  ·rw [e];exact ⟨_, _, _, rfl, fun h => absurd h hne, fun h => absurd (h.cl2 k hk) hne⟩
  rw [e];dsimp only
  by_cases h3 : 1 ≤ sh.length ∧ sh.length ≤ 4
  ·rw [if_pos h3]
   rcases firstE_cases (errAt sh fun _ => shErr) sh.length with ⟨e, _, h4⟩ | ⟨k, hk, hne, e, _⟩
   rotate_left
   ·rw [e];exact ⟨_, _, _, rfl, fun h => absurd h hne, fun h => absurd (h.sh2 k hk) hne⟩
   rw [e];dsimp only
   by_cases h5 : bs.length ≤ 10
   ·rw [if_pos h5]
    rcases firstE_cases (errAt bs (bkErr cl.length sh.length bs)) bs.length with ⟨e, _, h6⟩ | ⟨k, hk, hne, e, _⟩
    rotate_left
    ·rw [e];exact ⟨_, _, _, rfl, fun h => absurd h hne, fun h => absurd (h.bs2 k hk) hne⟩
    rw [e]
    rcases firstE_cases (errAt sh (fitErr bs)) sh.length with ⟨e, _, h7⟩ | ⟨k, hk, hne, e, _⟩
    rotate_left
    ·rw [e];exact ⟨_, _, _, rfl, fun h => absurd h hne, fun h => absurd (h.fit k hk) hne⟩
    rw [e];exact ⟨_, _, _, rfl, fun _ => ⟨h1, h2, h3, h4, h5, h6, h7⟩, fun _ => rfl⟩
   ·rw [if_neg h5];exact ⟨_, _, _, rfl, fun h => absurd h (by decide), fun h => absurd h.bs1 h5⟩
  ·rw [if_neg h3];exact ⟨_, _, _, rfl, fun h => absurd h (by decide), fun h => absurd h.sh1 h3⟩
 ·rw [if_neg h1];exact ⟨_, _, _, rfl, fun h => absurd h (by decide), fun h => absurd h.cl1 h1⟩
section
variable {cl : List Str} {sh : List qH} {bs : List qA}
theorem Fine.wides (h : Fine cl sh bs) : Wides bs := wides_all h.bs2
theorem Fine.shelf (h : Fine cl sh bs) {j : Nat} {a : qH} (ha : sh[j]? = some a) : shOk a := shOk_all h.sh2 ha
theorem Fine.book (h : Fine cl sh bs) {j : Nat} {b : qA} (hb : bs[j]? = some b) : 0 ≤ b.shelf ∧ b.shelf < sh.length := by
 have := (bkErr_zero (bk_all h.bs2 hb)).2.1;unfold btw at this; omega
theorem Fine.fits (h : Fine cl sh bs) {j : Nat} {a : qH} (ha : sh[j]? = some a) : fits bs j a := by
 have := h.fit j (List.getElem?_eq_some_iff.1 ha).1;rw [errAt_of ha] at this;unfold fitErr at this;split at this
 ·assumption
 ·cases this
def Left (sh : List qH) (bs : List qA) (l : List Int) : Prop := l.length = sh.length ∧ ∀ (j : Nat) (a : qH), sh[j]? = some a → l[j]? = some (a.wide - wideOn j bs)
theorem s9_Spare_ok (h : Fine cl sh bs) : Ok (P_s9_Spare cl sh bs) fun r => r.2 = 0 ∧ Left sh bs r.1 := by
 obtain ⟨c, i, e, he, hf⟩ := roomE_ok cl sh bs
 have he0 := hf.2 h
 have hb := h.wides;unfold P_s9_Spare P_s9_open;rw [s9_Check_eq, he]
 show Ok (if ¬ e = 0 then _ else _) _
 have hcl := h.cl1
 have hsh := h.sh1
 have hbs := h.bs1;rw [if_neg (not_not_intro he0)];refine Ok.andx (P := fun l => l = sh.map (·.wide)) ?_ ?_
 ·refine Ok.count (fun (x : Int × List Int) => x.1) sh.length (fun k x => x.2 = (sh.take k).map (·.wide)) rfl rfl ?_ ?_
  ·rintro k ⟨i, out⟩ hk hx hI;simp only at hx hI;subst hx;unfold P_s9_Spare_L1;obtain ⟨b, hb⟩ := get_some hk
   show Ok (if _ then _ else _) _;rw [if_pos (by omega), el_at hb];refine .chk ?_ (.chk (i64_small (by omega)) (.some ⟨rfl, ?_⟩))
   ·rw [hI, List.length_map, List.length_take]; simp; omega
   ·show out ++ [b.wide] = _;rw [take_step hb, List.map_append, hI]; rfl
  ·rintro ⟨i, out⟩ hx hI;simp only at hx hI;subst hx;unfold P_s9_Spare_L1
   show Ok (if _ then _ else _) _;rw [if_neg (by omega)];refine .some ?_
   show out = _;rw [hI, List.take_length]
 ·rintro l rfl;refine Ok.andx (P := fun r => Left sh bs r) ?_ (fun r hr => .some ⟨rfl, hr⟩);refine Ok.count (fun (x : Int × List Int) => x.1) bs.length (fun k x => Left sh (bs.take k) x.2) rfl ⟨by simp, fun j a ha => ?_⟩ ?_ ?_
  ·rw [List.getElem?_map, ha];simp [wideOn]
  ·rintro k ⟨i, l⟩ hk hx hI;simp only at hx hI;subst hx;unfold P_s9_Spare_L2;obtain ⟨b, hbk⟩ := get_some hk;obtain ⟨h0, h1⟩ := h.book hbk;obtain ⟨s, hs⟩ := Int.eq_ofNat_of_zero_le h0;obtain ⟨a, ha⟩ := get_some (l := sh) (k := s) (by omega)
   have hl := hI.2 s a ha
   have hw := (h.shelf ha).2.1
   have hbw := hb b (List.mem_of_getElem? hbk)
   have htk := wideOn_take (i := s) hb k;unfold btw at hw
   show Ok (if _ then _ else _) _;rw [if_pos (by omega), el_at hbk, hs, el_at hl];refine .chk (i64_small (by omega)) ?_;rw [el_at hl];refine .chk (i64_small (by omega)) (.some ⟨rfl, ?_, ?_⟩)
   ·show (List.set l _ _).length = _;rw [List.length_set]; exact hI.1
   ·intro j a' ha'
    show (List.set l _ _)[j]? = _;rw [List.getElem?_set, wideOn_step hbk, hs];simp only [Int.toNat_natCast]
    have hjl : j < l.length := by rw [hI.1]; exact (List.getElem?_eq_some_iff.1 ha').1
    by_cases e : s = j
    ·subst e;rw [ha] at ha'; cases ha';rw [if_pos rfl, if_pos hjl, if_pos rfl]
     congr 1; omega
    ·rw [if_neg e, hI.2 j a' ha', if_neg (by omega)]
     congr 1; omega
  ·rintro ⟨i, l⟩ hx hI;simp only at hx hI;subst hx;unfold P_s9_Spare_L2
   show Ok (if _ then _ else _) _;rw [if_neg (by omega)];refine .some ?_;rw [List.take_length] at hI;exact hI
end
end Go.Am
end
section
namespace Go.Am
set_option linter.unusedVariables false
set_option linter.unusedSimpArgs false
theorem cmpS_neg : ∀ a b : Str, cmpS b a = - cmpS a b
 | [], [] => by rfl
 | [], _ :: _ => by rfl
 | _ :: _, [] => by rfl
 | a :: la, b :: bs => by
  have := cmpS_neg la bs;simp only [cmpS, Lib.compareBytes, UInt8.lt_iff_toNat_lt] at this ⊢
  by_cases h1 : a.toNat < b.toNat
  ·rw [if_pos h1, if_neg (by omega), if_pos h1]; rfl
  ·by_cases h2 : b.toNat < a.toNat
   ·rw [if_pos h2, if_neg h1, if_pos h2]
   ·rw [if_neg h2, if_neg h1, if_neg h1, if_neg h2]; exact this
theorem cmpS_zero : ∀ a b : Str, cmpS a b = 0 ↔ a = b
 | [], [] => by simp [cmpS, Lib.compareBytes]
 | [], _ :: _ => by simp [cmpS, Lib.compareBytes]
 | _ :: _, [] => by simp [cmpS, Lib.compareBytes]
 | a :: la, b :: bs => by
  have := cmpS_zero la bs;simp only [cmpS, Lib.compareBytes, UInt8.lt_iff_toNat_lt] at this ⊢
  by_cases h1 : a.toNat < b.toNat
  ·rw [if_pos h1];exact ⟨fun h => by omega, fun h => by cases h; omega⟩
  ·by_cases h2 : b.toNat < a.toNat
   ·rw [if_neg h1, if_pos h2];exact ⟨fun h => by omega, fun h => by cases h; omega⟩
   ·rw [if_neg h1, if_neg h2, this]
    have : a = b := UInt8.toNat_inj.1 (by omega);subst this;simp
def fst4 (a b c d : Int) : Int := if ¬ a = 0 then a else if ¬ b = 0 then b else if ¬ c = 0 then c else d
def cmpM (c n : Int) (s : Str) (c' n' : Int) (s' : Str) : Int := fst4 (c - c') (n - n') ((s.length : Int) - s'.length) (cmpS s s')
theorem cmpM_neg {c n : Int} {s : Str} {c' n' : Int} {s' : Str} : cmpM c' n' s' c n s = - cmpM c n s c' n' s' := by
 unfold cmpM fst4;rw [cmpS_neg s s']
 by_cases h1 : c - c' = 0
 ·rw [if_neg (not_not_intro (show c' - c = 0 by omega)), if_neg (not_not_intro h1)]
  by_cases h2 : n - n' = 0
  ·rw [if_neg (not_not_intro (show n' - n = 0 by omega)), if_neg (not_not_intro h2)]
   by_cases h3 : (s.length : Int) - s'.length = 0
   ·rw [if_neg (not_not_intro (show (s'.length : Int) - s.length = 0 by omega)), if_neg (not_not_intro h3)]
   ·rw [if_pos (show ¬ (s'.length : Int) - s.length = 0 by omega), if_pos h3]; omega
  ·rw [if_pos (show ¬ n' - n = 0 by omega), if_pos h2]; omega
 ·rw [if_pos (show ¬ c' - c = 0 by omega), if_pos h1]; omega
theorem cmpM_zero {c n : Int} {s : Str} {c' n' : Int} {s' : Str} : cmpM c n s c' n' s' = 0 ↔ c = c' ∧ n = n' ∧ s = s' := by
 unfold cmpM fst4
 by_cases h1 : c - c' = 0
 ·rw [if_neg (not_not_intro h1)]
  by_cases h2 : n - n' = 0
  ·rw [if_neg (not_not_intro h2)]
   by_cases h3 : (s.length : Int) - s'.length = 0
   ·rw [if_neg (not_not_intro h3), cmpS_zero];exact ⟨fun h => ⟨by omega, by omega, h⟩, fun h => h.2.2⟩
   ·rw [if_pos h3];exact ⟨fun h => absurd h h3, fun h => by rw [h.2.2] at h3; omega⟩
  ·rw [if_pos h2];exact ⟨fun h => absurd h h2, fun h => by omega⟩
 ·rw [if_pos h1];exact ⟨fun h => absurd h h1, fun h => by omega⟩
theorem cmpOr_eq (a b c d : Int) : P_cmpOr [a, b, c, d] = some (fst4 a b c d) := by
 unfold P_cmpOr;rw [iter_scanI (fun i => if ([a, b, c, d] : List Int).getD i 0 = 0 then none else some (([a, b, c, d] : List Int).getD i 0)) 4, seqx_scan]
 ·unfold fst4;rw [show List.range 4 = [0, 1, 2, 3] from rfl]
  by_cases h1 : a = 0 <;> by_cases h2 : b = 0 <;> by_cases h3 : c = 0 <;> by_cases h4 : d = 0 <;> simp [h1, h2, h3, h4]
 ·intro k hk _;unfold P_cmpOr_L1;rw [if_pos (by simp; omega)];obtain ⟨x, hx⟩ := get_some (l := [a, b, c, d]) (k := k) hk;rw [el_at hx, chk_pos (i64_small (by omega))]
  have e : ([a, b, c, d] : List Int).getD k 0 = x := by simp [List.getD, hx]
  simp only [e]
  by_cases h : x = 0
  ·rw [if_neg (not_not_intro h), if_pos h]; rfl
  ·rw [if_pos h, if_neg h]; rfl
 ·intro _;unfold P_cmpOr_L1;rw [if_neg (by simp)]
theorem markOk_bound {ncl : Nat} {c n : Int} {s : Str} (h : mkErr ncl c n s = 0) : (0 ≤ c ∧ c < ncl) ∧ (1 ≤ n ∧ n ≤ 9999) ∧ s.length ≤ 2 ∧ isLow s := by
 unfold mkErr at h;split at h
 ·rename_i h1
  split at h
  ·rename_i h2
   split at h
   ·rename_i h3
    split at h
    ·rename_i h4
     unfold btw at h1 h2;exact ⟨by omega, by omega, h3, h4⟩
    ·cases h
   ·cases h
  ·cases h
 ·cases h
theorem s9_compare_eq {ncl : Nat} {c n : Int} {s : Str} {c' n' : Int} {s' : Str} (hn : ncl ≤ 1000) (h : mkErr ncl c n s = 0) (h' : mkErr ncl c' n' s' = 0) : P_s9_compare c n s c' n' s' = some (cmpM c n s c' n' s') := by
 have b := markOk_bound h
 have b' := markOk_bound h';unfold P_s9_compare
 by_cases e : c = c' ∧ n = n' ∧ s = s'
 ·rw [if_pos e, cmpM_zero.2 e]
 ·rw [if_neg e, chk_pos (i64_small (by omega)), chk_pos (i64_small (by omega)), chk_pos (i64_small (by omega)), cmpOr_eq];rfl
noncomputable def roomN (cl : List Str) (sh : List qH) (bs : List qA) : Int := match roomE cl sh bs with | some (_, _, e) => e | none => 0
section
variable {cl : List Str} {sh : List qH} {bs : List qA}
theorem roomN_zero : roomN cl sh bs = 0 ↔ Fine cl sh bs := by
 obtain ⟨c, i, e, he, hf⟩ := roomE_ok cl sh bs;unfold roomN;rw [he]; exact hf
theorem s9_open_eq : P_s9_open cl sh bs = some (roomN cl sh bs) := by
 obtain ⟨c, i, e, he, hf⟩ := roomE_ok cl sh bs;unfold P_s9_open roomN;rw [s9_Check_eq, he]; rfl
noncomputable def two (cl : List Str) (sh : List qH) (bs : List qA) (c n : Int) (s : Str) (c' n' : Int) (s' : Str) : Int :=
 if roomN cl sh bs = 0 then (if mkErr cl.length c n s = 0 then mkErr cl.length c' n' s' else mkErr cl.length c n s) else roomN cl sh bs
end
end Go.Am
end
section
namespace Go.Am
set_option linter.unusedVariables false
set_option linter.unusedSimpArgs false
def bytesI (s : Str) : List Int := s.map fun b => (b.toNat : Int)
def keyL (c n : Int) (s : Str) : List Int := [c, n, (s.length : Int)] ++ bytesI s
theorem r9_key_eq {c n : Int} {s : Str} (hs : s.length ≤ 1000) : P_r9_key c n s = some (keyL c n s) := by
 refine Ok.get ?_;unfold P_r9_key;refine Ok.andx (P := fun r => r = keyL c n s) ?_ (fun r hr => .some hr);refine Ok.count (fun (x : Int × List Int) => x.1) s.length (fun k x => x.2 = [c, n, (s.length : Int)] ++ bytesI (s.take k)) rfl rfl ?_ ?_
 ·rintro k ⟨i, out⟩ hk hx hI;simp only at hx hI;subst hx;obtain ⟨b, hb⟩ := get_some hk
  have hbb := byteAt_lt s (k : Int)
  have hbe := byteAt_of hb;unfold P_r9_key_L1
  show Ok (if _ then _ else _) _;rw [if_pos (by omega)];refine .chk (by omega) (.chk (by omega) (.chk ?_ (.chk (i64_small (by omega)) (.some ⟨rfl, ?_⟩))))
  ·rw [hI]; simp [bytesI]; omega
  ·show out ++ [byteAt s (k : Int)] = _;rw [hI, take_step hb, hbe];simp [bytesI]
 ·rintro ⟨i, out⟩ hx hI;simp only at hx hI;subst hx;unfold P_r9_key_L1
  show Ok (if _ then _ else _) _;rw [if_neg (by omega)];refine .some ?_
  show out = _;rw [hI, List.take_length]; rfl
def lexB : List Int → List Int → Bool
 | [], [] => false
 | [], _ :: _ => true
 | _ :: _, [] => false
 | a :: l, b :: m => if a = b then lexB l m else decide (a < b)
theorem lexB_nil {l : List Int} : lexB [] l = decide (0 < l.length) := by cases l <;> simp [lexB]
theorem lexB_nil' {l : List Int} : lexB l [] = false := by cases l <;> rfl
theorem w1_Before_eq {a b : List Int} (ha : a.length ≤ 1000) : P_w1_Before a b = some (lexB a b) := by
 refine Ok.get ?_;unfold P_w1_Before;refine Ok.seqx ?_;refine Ok.count id (Nat.min a.length b.length) (fun k _ => lexB (a.drop k) (b.drop k) = lexB a b) rfl rfl ?_ ?_
 ·rintro k x hk hx hI;simp only [id] at hx;subst hx
  have h1 : k < a.length := Nat.lt_of_lt_of_le hk (Nat.min_le_left _ _)
  have h2 : k < b.length := Nat.lt_of_lt_of_le hk (Nat.min_le_right _ _);obtain ⟨x, hx⟩ := get_some h1;obtain ⟨y, hy⟩ := get_some h2
  have ea : a.drop k = x :: a.drop (k + 1) := by rw [← List.getElem_cons_drop h1]; congr 1; exact Option.some.inj ((List.getElem?_eq_getElem h1).symm.trans hx)
  have eb : b.drop k = y :: b.drop (k + 1) := by rw [← List.getElem_cons_drop h2]; congr 1; exact Option.some.inj ((List.getElem?_eq_getElem h2).symm.trans hy)
  rw [ea, eb] at hI;unfold P_w1_Before_L1;refine Ok.seqx ?_;rw [if_pos (by omega), decide_eq_true (by omega), andx_some', if_pos rfl];refine .some ?_
  show Ok (el a (k : Int) _) _;rw [el_at hx, el_at hy]
  by_cases e : x = y
  ·rw [if_neg (not_not_intro e)];refine .chk (i64_small (by omega)) (.some ⟨rfl, ?_⟩);rw [← hI, lexB, if_pos e]
  ·rw [if_pos e, el_at hx, el_at hy];refine .some ?_
   show decide (x < y) = _;rw [← hI, lexB, if_neg e]
 ·rintro x hx hI;simp only [id] at hx;unfold P_w1_Before_L1;refine Ok.seqx ?_
  by_cases h1 : x < (a.length : Int)
  ·have h2 : ¬ x < (b.length : Int) := by
    have : Nat.min a.length b.length = if a.length ≤ b.length then a.length else b.length := Nat.min_def;split at this <;> omega
   rw [if_pos h1, decide_eq_false h2, andx_some', if_neg (by decide)];refine .some (.some ?_)
   have hm : Nat.min a.length b.length = b.length := by
    have : Nat.min a.length b.length = if a.length ≤ b.length then a.length else b.length := Nat.min_def;split at this <;> omega
   rw [hm] at hI hx;rw [List.drop_of_length_le (Nat.le_refl b.length), lexB_nil'] at hI;rw [← hI];exact decide_eq_false (by omega)
  ·rw [if_neg h1, andx_some', if_neg (by decide)];refine .some (.some ?_)
   have hm : Nat.min a.length b.length = a.length := by
    have : Nat.min a.length b.length = if a.length ≤ b.length then a.length else b.length := Nat.min_def;split at this <;> omega
   rw [hm] at hI hx;rw [List.drop_of_length_le (Nat.le_refl a.length), lexB_nil, List.length_drop] at hI;rw [← hI];exact decide_eq_decide.2 (by omega)
theorem lexB_bytes : ∀ s s' : Str, lexB (bytesI s) (bytesI s') = decide (cmpS s s' < 0)
 | [], [] => by simp [lexB, bytesI, cmpS, Lib.compareBytes]
 | [], _ :: _ => by simp [lexB, bytesI, cmpS, Lib.compareBytes]
 | _ :: _, [] => by simp [lexB, bytesI, cmpS, Lib.compareBytes]
 | a :: l, b :: m => by
  have ih := lexB_bytes l m;simp only [bytesI, List.map_cons, lexB, cmpS, Lib.compareBytes, UInt8.lt_iff_toNat_lt] at ih ⊢
  by_cases e : (a.toNat : Int) = (b.toNat : Int)
  ·rw [if_pos e, if_neg (by omega), if_neg (by omega)]; exact ih
  ·rw [if_neg e]
   by_cases h : a.toNat < b.toNat
   ·rw [if_pos h, decide_eq_true (by omega)]; rfl
   ·rw [if_neg h, if_pos (by omega), decide_eq_false (by omega)]; rfl
theorem lexB_key {c n : Int} {s : Str} {c' n' : Int} {s' : Str} : lexB (keyL c n s) (keyL c' n' s') = decide (cmpM c n s c' n' s' < 0) := by
 have h := lexB_bytes s s'
 show lexB (c :: n :: (s.length : Int) :: bytesI s) (c' :: n' :: (s'.length : Int) :: bytesI s') = _;simp only [lexB];unfold cmpM fst4
 by_cases h1 : c = c'
 ·rw [if_pos h1, if_neg (not_not_intro (show c - c' = 0 by omega))]
  by_cases h2 : n = n'
  ·rw [if_pos h2, if_neg (not_not_intro (show n - n' = 0 by omega))]
   by_cases h3 : (s.length : Int) = s'.length
   ·rw [if_pos h3, if_neg (not_not_intro (show (s.length : Int) - s'.length = 0 by omega)), h]
   ·rw [if_neg h3, if_pos (show ¬ (s.length : Int) - s'.length = 0 by omega)];exact decide_eq_decide.2 (by omega)
  ·rw [if_neg h2, if_pos (show ¬ n - n' = 0 by omega)];exact decide_eq_decide.2 (by omega)
 ·rw [if_neg h1, if_pos (show ¬ c - c' = 0 by omega)];exact decide_eq_decide.2 (by omega)
theorem r9_First_eq {c n : Int} {s : Str} {c' n' : Int} {s' : Str} (h : s.length ≤ 900) (h' : s'.length ≤ 900) : P_r9_First c n s c' n' s' = some (decide (cmpM c n s c' n' s' < 0)) := by
 unfold P_r9_First;rw [r9_key_eq (by omega), andx_some', r9_key_eq (by omega), andx_some', w1_Before_eq (by simp [keyL, bytesI]; omega), andx_some', lexB_key]
section
variable {cl : List Str} {sh : List qH} {bs : List qA}
end
def mLess (a b : qA) : Prop := cmpM a.qR a.qS a.qQ b.qR b.qS b.qQ < 0
def Rises (l : List qA) : Prop := ∀ (k : Nat) (a b : qA), l[k]? = some a → l[k + 1]? = some b → mLess a b
def Shorts (l : List qA) : Prop := ∀ b ∈ l, b.qQ.length ≤ 2
def riseAt (l : List qA) (k : Nat) : Prop := ∀ (a b : qA), l[k]? = some a → l[k + 1]? = some b → mLess a b
open Classical in
theorem r9_Ordered_eq {l : List qA} (hs : Shorts l) (hl : l.length ≤ 1000) : P_r9_Ordered l = some (decide (Rises l)) := by
 unfold P_r9_Ordered
 have key : iter (P_r9_Ordered_L1 l) 1 = some (scanX (fun i => if riseAt l i then none else some false) (l.length - 1)) := by
  refine iter_scan (fun k : Nat => (k : Int) + 1) (fun i => if riseAt l i then none else some false) (l.length - 1) (fun _ => rfl) (fun k hk _ => ?_) (fun _ => ?_)
  ·obtain ⟨a, ha⟩ := get_some (l := l) (k := k) (by omega);obtain ⟨b, hb⟩ := get_some (l := l) (k := k + 1) (by omega);unfold P_r9_Ordered_L1
   have e1 : (k : Int) + 1 - 1 = (k : Int) := by omega
   have e2 : (k : Int) + 1 = ((k + 1 : Nat) : Int) := by omega
   rw [if_pos (by omega), e1, chk_pos (i64_small (by omega)), el_at ha, e2, el_at hb, r9_First_eq (by have := hs a (List.mem_of_getElem? ha); omega) (by have := hs b (List.mem_of_getElem? hb); omega), andx_some', chk_pos (i64_small (by omega))]
   have e : riseAt l k ↔ mLess a b := ⟨fun h => h a b ha hb, fun h a' b' ha' hb' => by rw [ha] at ha'; rw [hb] at hb'; cases ha'; cases hb'; exact h⟩
   by_cases h : mLess a b
   ·rw [decide_eq_true (show _ < (0 : Int) from h), if_pos rfl, if_pos (e.2 h)]; rfl
   ·rw [decide_eq_false (show ¬ _ < (0 : Int) from h), if_neg (by decide), if_neg fun k => h (e.1 k)]; rfl
  ·unfold P_r9_Ordered_L1;rw [if_neg (by omega)]
 rw [key, seqx_scan, find_if]
 by_cases h : ∀ j, j < l.length - 1 → riseAt l j
 ·rw [if_pos h, decide_eq_true];exact fun k a b ha hb => h k (by have := (List.getElem?_eq_some_iff.1 hb).1; omega) a b ha hb
 ·rw [if_neg h, decide_eq_false];exact fun k => h fun j _ => k j
end Go.Am
end
section
namespace Go.Am
set_option linter.unusedVariables false
set_option linter.unusedSimpArgs false
instance (a b : qA) : Decidable (mLess a b) := inferInstanceAs (Decidable (_ < (0 : Int)))
def place : List qA → qA → Nat
 | [], _ => 0
 | a :: r, b => if mLess a b then place r b + 1 else 0
theorem place_le : ∀ (l : List qA) (b : qA), place l b ≤ l.length
 | [], _ => Nat.le_refl _
 | a :: r, b => by
  have := place_le r b;unfold place;split <;> simp only [List.length_cons] <;> omega
def insertedB (l : List qA) (b : qA) : List qA := l.take (place l b) ++ b :: l.drop (place l b)
def stepB (P : Prop) [Decidable P] (k : Int) : Stp Int Int := if P then .ag (k + 1) else .dn k
theorem iter_place {body : Int → Option (Stp Int Int)} {l : List qA} {b : qA} (step : ∀ (k : Nat) (a : qA), l[k]? = some a → body (k : Int) = some (stepB (mLess a b) k)) (fin : body (l.length : Int) = some (.dn (l.length : Int))) :
  iter body 0 = some ((place l b : Nat) : Int) := by
 have key : ∀ m k : Nat, m + k = l.length → iter body (k : Int) = some ((k + place (l.drop k) b : Nat) : Int) := by
  intro m
  induction m with
  | zero =>
   intro k hk
   have : k = l.length := by omega
   subst this;rw [List.drop_of_length_le (Nat.le_refl _)];exact iter_eq.2 (.inr fin)
  | succ m ih =>
   intro k hk
   have hlt : k < l.length := by omega
   obtain ⟨a, ha⟩ := get_some hlt
   have ea : l.drop k = a :: l.drop (k + 1) := by rw [← List.getElem_cons_drop hlt]; congr 1; exact Option.some.inj ((List.getElem?_eq_getElem hlt).symm.trans ha)
   have hs := step k a ha;unfold stepB at hs;rw [ea];unfold place
   by_cases h : mLess a b
   ·rw [if_pos h] at hs ⊢;refine iter_eq.2 (.inl ⟨_, hs, ?_⟩)
    have := ih (k + 1) (by omega);rw [show (k : Int) + 1 = ((k + 1 : Nat) : Int) by omega, this]
    congr 2; omega
   ·rw [if_neg h] at hs ⊢;exact iter_eq.2 (.inr hs)
 have := key l.length 0 (by omega)
 simpa using this
def MarksOk (ncl : Nat) (l : List qA) : Prop := ∀ b ∈ l, mkErr ncl b.qR b.qS b.qQ = 0
theorem MarksOk.shorts {ncl : Nat} {l : List qA} (h : MarksOk ncl l) : Shorts l := fun b hb => (markOk_bound (h b hb)).2.2.1
theorem andx_bool {b : Bool} : (andx (some b) fun y => some y) = some b := rfl
theorem r9_With_eq {l : List qA} {b : qA} (hs : Shorts l) (hb : b.qQ.length ≤ 2) (hl : l.length ≤ 1000) : P_r9_With l b = some (insertedB l b, (place l b : Int)) := by
 unfold P_r9_With
 have hp := place_le l b;rw [iter_place (l := l) (b := b), andx_some']
 ·rw [chk_pos (by omega), chk_pos (by simp; omega), chk_pos (by simp; omega), chk_pos (by omega), chk_pos (by simp; omega)]
  congr 2
  unfold insertedB
  have e1 : (((place l b : Nat) : Int) - 0).toNat = place l b := by omega
  have e2 : ((l.length : Int) - ((place l b : Nat) : Int)).toNat = l.length - place l b := by omega
  rw [e1, e2];simp only [Int.toNat_natCast, List.nil_append, List.append_assoc, List.singleton_append, show (0 : Int).toNat = 0 from rfl, List.drop_zero];rw [List.take_of_length_le (show (l.drop (place l b)).length ≤ l.length - place l b by rw [List.length_drop]; exact Nat.le_refl _)]
 ·intro k a ha
  have hk := (List.getElem?_eq_some_iff.1 ha).1;unfold P_r9_With_L1;rw [if_pos (by omega), el_at ha, r9_First_eq (by have := hs a (List.mem_of_getElem? ha); omega) (by omega), andx_bool, andx_some', chk_pos (i64_small (by omega))];unfold stepB
  by_cases h : mLess a b
  ·rw [decide_eq_true (show _ < (0 : Int) from h), if_pos rfl, if_pos h]; rfl
  ·rw [decide_eq_false (show ¬ _ < (0 : Int) from h), if_neg (by decide), if_neg h]; rfl
 ·unfold P_r9_With_L1;rw [if_neg (by omega)]; rfl
theorem iter_enter {ncl : Nat} {l : List qA} {b : qA} (hn : ncl ≤ 1000) (hm : MarksOk ncl l) (hb : mkErr ncl b.qR b.qS b.qQ = 0) (hl : l.length ≤ 1000) : iter (P_s9_enter_L1 l b) 0 = some ((place l b : Nat) : Int) := by
 refine iter_place (fun k a ha => ?_) ?_
 ·have hk := (List.getElem?_eq_some_iff.1 ha).1;unfold P_s9_enter_L1;rw [if_pos (by omega), el_at ha, s9_compare_eq hn (hm a (List.mem_of_getElem? ha)) hb, andx_some', andx_some', chk_pos (i64_small (by omega))];unfold stepB
  by_cases h : mLess a b
  ·rw [decide_eq_true (show _ < (0 : Int) from h), if_pos rfl, if_pos h]; rfl
  ·rw [decide_eq_false (show ¬ _ < (0 : Int) from h), if_neg (by decide), if_neg h]; rfl
 ·unfold P_s9_enter_L1;rw [if_neg (by omega)]; rfl
def Dist (l : List qA) : Prop := ∀ (i j : Nat) (a b : qA), i < j → l[i]? = some a → l[j]? = some b → ¬ sameMark a b.qR b.qS b.qQ
open Classical in
theorem s9_ordered_eq {ncl : Nat} {l : List qA} (hn : ncl ≤ 1000) (hm : MarksOk ncl l) (hd : Dist l) (hl : l.length ≤ 1000) : P_s9_ordered l = some (decide (Rises l)) := by
 refine Ok.get ?_;unfold P_s9_ordered;rw [chk_pos (i64_small (by omega))];refine Ok.andx (P := fun r => r = decide (Rises l)) ?_ (fun r hr => .some hr);refine Ok.seqx ?_;refine Ok.iter (fun i : Int => -1 ≤ i ∧ i < l.length ∧ ∀ k : Nat, i ≤ k → riseAt l k) (fun i => (i + 1).toNat) ⟨by omega, by omega, fun k hk a b ha hb => ?_⟩ ?_
 ·have := (List.getElem?_eq_some_iff.1 hb).1;omega
 ·rintro i ⟨h1, h2, h3⟩;unfold P_s9_ordered_L1
  by_cases h0 : i > 0
  ·obtain ⟨k, rfl⟩ : ∃ k : Nat, i = ((k + 1 : Nat) : Int) := ⟨(i - 1).toNat, by omega⟩;obtain ⟨a, ha⟩ := get_some (l := l) (k := k) (by omega);obtain ⟨b, hb⟩ := get_some (l := l) (k := k + 1) (by omega)
   have e1 : ((k + 1 : Nat) : Int) - 1 = (k : Int) := by omega
   rw [if_pos h0, el_at hb, e1, chk_pos (i64_small (by omega)), el_at ha, s9_compare_eq hn (hm b (List.mem_of_getElem? hb)) (hm a (List.mem_of_getElem? ha))]
   show Ok (andx (andx (some _) _) _) _;rw [andx_some', andx_some']
   have hne : cmpM b.qR b.qS b.qQ a.qR a.qS a.qQ ≠ 0 := fun h => by
    have := cmpM_zero.1 h;exact hd k (k + 1) a b (by omega) ha hb ⟨this.1.symm, this.2.1.symm, this.2.2.symm⟩
   have hneg : cmpM b.qR b.qS b.qQ a.qR a.qS a.qQ = - cmpM a.qR a.qS a.qQ b.qR b.qS b.qQ := cmpM_neg
   by_cases h : cmpM b.qR b.qS b.qQ a.qR a.qS a.qQ < 0
   ·rw [if_pos h];refine .some ?_
    show false = _;rw [decide_eq_false];intro hr
    have := hr k a b ha hb;unfold mLess at this;omega
   ·rw [if_neg h];refine .chk (i64_small (by omega)) (.some ⟨⟨by omega, by omega, fun j hj => ?_⟩, by show ((k : Int) + 1).toNat < (((k + 1 : Nat) : Int) + 1).toNat; omega⟩)
    by_cases hjk : j = k
    ·subst hjk;intro a' b' ha' hb';rw [ha] at ha'; rw [hb] at hb';cases ha'; cases hb';unfold mLess; omega
    ·exact h3 j (by omega)
  ·rw [if_neg h0];refine .some ?_;refine Ok.some ?_;rw [decide_eq_true];intro k a b ha hb;exact h3 k (by omega) a b ha hb
section
variable {cl : List Str} {sh : List qH} {bs : List qA}
theorem Fine.marks (h : Fine cl sh bs) : MarksOk cl.length bs := fun b hb => by
 obtain ⟨j, hj⟩ := List.getElem?_of_mem hb;exact (bkErr_zero (bk_all h.bs2 hj)).2.2.2.2
theorem Fine.dist (h : Fine cl sh bs) : Dist bs := fun i j a b hij ha hb hs => by
 have := (bkErr_zero (bk_all h.bs2 hb)).2.2.2.1
 have hi := (List.getElem?_eq_some_iff.1 ha).1
 have hj := (List.getElem?_eq_some_iff.1 hb).1;exact this ⟨i, by rw [List.length_take]; omega, a, by rw [List.getElem?_take_of_lt hij]; exact ha, hs⟩
open Classical in
noncomputable def furE (cl : List Str) (sh : List qH) (bs : List qA) (b : qA) : Int :=
 if roomN cl sh bs = 0 then (if bkErr1 cl.length b.qR b.qS b.qQ b.wide b.high b.heavy bs = 0 then (if Rises bs then 0 else 2) else bkErr1 cl.length b.qR b.qS b.qQ b.wide b.high b.heavy bs) else roomN cl sh bs
open Classical in
theorem r9_Further_eq {b : qA} : P_r9_Further cl sh bs b.qR b.qS b.qQ b.wide b.high b.heavy b.shelf = some (furE cl sh bs b) := by
 obtain ⟨c0, i, e, he, hf⟩ := roomE_ok cl sh bs
 have hN : roomN cl sh bs = e := by unfold roomN; rw [he]
 unfold P_r9_Further furE;rw [r9_Check_eq, he, andx_some', hN];dsimp only
 by_cases h : e = 0
 ·have hF := hf.1 h
  have h1 := hF.cl1
  have h2 := hF.bs1;rw [if_pos h, if_pos h, r9_Book_eq (by omega) (by omega)]
  show andx (some _) _ = _;rw [andx_some']
  by_cases g : bkErr1 cl.length b.qR b.qS b.qQ b.wide b.high b.heavy bs = 0
  ·rw [if_pos g, if_pos g, r9_Ordered_eq hF.marks.shorts (by omega)]
   by_cases k : Rises bs
   ·rw [decide_eq_true k, if_pos k]
    show some _ = _;rw [g]
   ·rw [decide_eq_false k, if_neg k]; rfl
  ·rw [if_neg g, if_neg g]; rfl
 ·rw [if_neg h, if_neg h, andx_some', if_neg h]; rfl
theorem insert_copy {α : Type} {l : List α} {z b : α} {p : Nat} (hp : p ≤ l.length) : List.set (copyIn (copyIn (List.replicate (l.length + 1) z) 0 (l.take p)) (p + 1) (l.drop p)) p b = l.take p ++ b :: l.drop p := by
 have e1 : copyIn (List.replicate (l.length + 1) z) 0 (l.take p) = l.take p ++ z :: List.replicate (l.length - p) z := by
  unfold copyIn;rw [List.take_zero, List.nil_append, List.length_take, Nat.zero_add, Nat.min_eq_left hp, List.drop_replicate, show l.length + 1 - p = (l.length - p) + 1 by omega, List.replicate_succ]
 have hl : (l.take p).length = p := by rw [List.length_take, Nat.min_eq_left hp]
 have e2 : copyIn (l.take p ++ z :: List.replicate (l.length - p) z) (p + 1) (l.drop p) = l.take p ++ z :: l.drop p := by
  have hd : (l.take p ++ z :: List.replicate (l.length - p) z).drop (p + 1 + (l.drop p).length) = [] := List.drop_of_length_le (by simp; omega);unfold copyIn;rw [hd, List.append_nil, List.take_append, hl, List.take_of_length_le (by omega), show p + 1 - p = 1 by omega];simp
 rw [e1, e2]
 have hset : ∀ (x : List α) (y : List α), x.length = p → List.set (x ++ z :: y) p b = x ++ b :: y := by
  intro x y hx;subst hx;simp
 exact hset _ _ hl
open Classical in
theorem s9_enter_eq {b : qA} : P_s9_enter cl sh bs b = some (if furE cl sh bs b = 0 then Sum.inr (insertedB bs b, (place bs b : Int), 0) else Sum.inl (0, furE cl sh bs b)) := by
 unfold P_s9_enter;rw [s9_open_eq, andx_some'];unfold furE
 by_cases h : roomN cl sh bs = 0
 ·have hF := roomN_zero.1 h
  have h1 := hF.cl1
  have h2 := hF.bs1;rw [if_neg (not_not_intro h), if_pos h, s9_book_eq (by omega) (by omega), andx_some']
  by_cases g : bkErr1 cl.length b.qR b.qS b.qQ b.wide b.high b.heavy bs = 0
  ·have hb : mkErr cl.length b.qR b.qS b.qQ = 0 := by
    unfold bkErr1 at g;split at g
    ·assumption
    ·rename_i hx; exact absurd g hx
   rw [if_neg (not_not_intro g), if_pos g, s9_ordered_eq (by omega) hF.marks hF.dist (by omega), andx_some']
   by_cases k : Rises bs
   ·rw [decide_eq_true k, if_pos rfl, if_pos k, iter_enter (by omega) hF.marks hb (by omega), andx_some']
    have hp := place_le bs b
    have e1 : (((place bs b : Nat) : Int) - 0).toNat = place bs b := by omega
    have e2 : ((bs.length : Int) - ((place bs b : Nat) : Int)).toNat = bs.length - place bs b := by omega
    have e3 : ((bs.length : Int) + 1).toNat = bs.length + 1 := by omega
    have e4 : 0 + (((place bs b : Nat) : Int) + 1).toNat = place bs b + 1 := by omega
    have e5 : (bs.drop (place bs b)).take (bs.length - place bs b) = bs.drop (place bs b) := List.take_of_length_le (by rw [List.length_drop]; exact Nat.le_refl _);rw [e1, e2, e3, e4];simp only [show (0 : Int).toNat = 0 from rfl, List.drop_zero, Int.toNat_natCast];rw [e5]
    have hc1 : (copyIn (List.replicate (bs.length + 1) (⟨0, 0, ([] : Str), 0, 0, 0, 0⟩ : qA)) 0 (bs.take (place bs b))).length = bs.length + 1 := by
     rw [copyIn_len (by simp; omega), List.length_replicate]
    have hc2 : (copyIn (copyIn (List.replicate (bs.length + 1) (⟨0, 0, ([] : Str), 0, 0, 0, 0⟩ : qA)) 0 (bs.take (place bs b))) (place bs b + 1) (bs.drop (place bs b))).length = bs.length + 1 := by
     rw [copyIn_len (by rw [hc1, List.length_drop]; omega), hc1]
    rw [chk_pos (i64_small (by omega)), chk_pos (by omega), chk_pos (by omega), chk_pos (by simp; omega), chk_pos (i64_small (by omega)), chk_pos (by rw [hc1]; omega), chk_pos (by omega), chk_pos (by rw [hc1, List.length_drop]; omega)];obtain ⟨x, hx⟩ := get_some (l := copyIn (copyIn (List.replicate (bs.length + 1) (⟨0, 0, ([] : Str), 0, 0, 0, 0⟩ : qA)) 0 (bs.take (place bs b))) (place bs b + 1) (bs.drop (place bs b))) (k := place bs b) (by rw [hc2]; omega);rw [el_at hx, insert_copy hp];simp only [if_true];rfl
   ·rw [decide_eq_false k, if_neg (by decide), if_neg k]; rfl
  ·rw [if_pos g, if_neg g, if_neg g]
 ·rw [if_pos h, if_neg h, if_neg h]
end
end Go.Am
end
section
namespace Go.Am
set_option linter.unusedVariables false
set_option linter.unusedSimpArgs false
def withS (books : List qA) (ls : List Int) : List qA := List.zipWith (fun b s => { b with shelf := s }) books ls
theorem withS_len {books : List qA} {ls : List Int} (h : ls.length = books.length) : (withS books ls).length = books.length := by
 unfold withS;rw [List.length_zipWith, h, Nat.min_self]
theorem withS_get {books : List qA} {ls : List Int} {k : Nat} {b : qA} {s : Int} (hb : books[k]? = some b) (hs : ls[k]? = some s) : (withS books ls)[k]? = some { b with shelf := s } := by
 unfold withS;rw [List.getElem?_zipWith, hb, hs]
theorem withS_wides {books : List qA} {ls : List Int} (h : Wides books) : Wides (withS books ls) := fun b hb => by
 obtain ⟨k, hk⟩ := List.getElem?_of_mem hb;unfold withS at hk;rw [List.getElem?_zipWith] at hk;cases hx : books[k]? with
 | none => rw [hx] at hk; cases hk
 | some x =>
  cases hy : ls[k]? with
  | none => rw [hx, hy] at hk; cases hk
  | some y =>
   rw [hx, hy] at hk;cases hk;exact h x (List.mem_of_getElem? hx)
theorem withS_own : ∀ books : List qA, withS books (books.map (·.shelf)) = books
 | [] => rfl
 | b :: r => by
  have := withS_own r;unfold withS at this ⊢;rw [List.map_cons, List.zipWith_cons_cons, this]
section
variable {cl : List Str} {sh : List qH} {bs books : List qA} {ls : List Int} {i : Nat} {a : qH}
open Classical in
theorem r9_fit_gen (ha : sh[i]? = some a) (hb : Wides books) (hl : books.length ≤ 1000) (hls : ls.length = books.length) :
  P_r9_fit cl sh bs books ls (i : Int) = some (decide (fits (withS books ls) i a)) := by
 have hB := withS_wides (ls := ls) hb
 have hlen := withS_len hls;refine Ok.get ?_;unfold P_r9_fit;rw [el_at ha];refine Ok.andx (P := fun y => (0 ≤ y ∧ lowOn i a.high (withS books ls) ∧ y = wideOn i (withS books ls)) ∨ (y < 0 ∧ ¬ lowOn i a.high (withS books ls))) ?_ ?_
 ·unfold P_r9_Filled;refine Ok.seqx ?_;refine Ok.count (fun (x : Int × Int) => x.2) books.length (fun k x => x.1 = wideOn i ((withS books ls).take k) ∧ lowOn i a.high ((withS books ls).take k)) rfl ⟨rfl, fun b hb => by simp at hb⟩ ?_ ?_
  ·rintro k ⟨n, j⟩ hk hx ⟨h1, h2⟩;simp only at hx h1 h2;subst hx;obtain ⟨b, hbk⟩ := get_some hk;obtain ⟨s, hsk⟩ := get_some (l := ls) (k := k) (by omega)
   have hw := withS_get hbk hsk;unfold P_r9_Filled_L1
   show Ok (if _ then _ else _) _
   have hk1 := wideOn_take (i := i) hB k
   have hk2 := wideOn_take (i := i) hB (k + 1)
   have hst := wideOn_step (i := i) hw;rw [if_pos (by omega)];refine Ok.seqx ?_;rw [el_at hsk]
   by_cases hs : s = i
   ·rw [if_pos hs] at hst;rw [if_neg (not_not_intro hs), el_at hbk, el_at ha, el_at hbk]
    by_cases hh : b.high > a.high
    ·rw [if_pos hh];refine .some ?_
     show _ ∨ _;refine .inr ⟨by omega, fun h => ?_⟩
     have := h _ (List.mem_of_getElem? hw) hs;simp only at this;omega
    ·rw [if_neg hh];simp only at hst;refine .chk (i64_small (by omega)) (.some (.chk (i64_small (by omega)) (.some ⟨rfl, ?_, lowOn_step hw h2 fun _ => by simp only; omega⟩)))
     show n + b.wide = _;omega
   ·rw [if_neg hs] at hst;rw [if_pos hs];refine .some (.chk (i64_small (by omega)) (.some ⟨rfl, ?_, lowOn_step hw h2 fun h => absurd h hs⟩))
    show n = _;omega
  ·rintro ⟨n, j⟩ hx ⟨h1, h2⟩;simp only at hx h1 h2;subst hx;unfold P_r9_Filled_L1
   show Ok (if _ then _ else _) _;rw [if_neg (by omega)];rw [← hlen, List.take_length] at h1 h2;refine .some (.some (.inl ⟨?_, h2, h1⟩));rw [h1];exact (wideOn_nonneg hB).1
 ·rintro y hy;rw [r9_in_eq, andx_some'];refine .some ?_;refine decide_eq_decide.2 ?_
  rcases hy with ⟨h0, h1, h2⟩ | ⟨h1, h2⟩
  ·subst h2;exact ⟨fun h => ⟨h1, h.2⟩, fun h => ⟨h0, h.2⟩⟩
  ·exact ⟨fun h => by omega, fun h => absurd h.1 h2⟩
def upAt (ls : List Int) (k : Nat) : Prop := ∀ x y, ls[k]? = some x → ls[k + 1]? = some y → x ≤ y
def fitAt (sh : List qH) (l : List qA) (s : Nat) : Prop := ∀ a, sh[s]? = some a → fits l s a
def Arr (sh : List qH) (books : List qA) (ls : List Int) : Prop := (∀ k, upAt ls k) ∧ ∀ s, fitAt sh (withS books ls) s
open Classical in
theorem r9_Arranged_eq (hsh : sh.length ≤ 1000) (hb : Wides books) (hl : books.length ≤ 1000) (hls : ls.length = books.length) : P_r9_Arranged cl sh bs books ls = some (decide (Arr sh books ls)) := by
 unfold P_r9_Arranged
 have key : iter (P_r9_Arranged_L1 ls) 1 = some (scanX (fun i => if upAt ls i then none else some false) (ls.length - 1)) := by
  refine iter_scan (fun k : Nat => (k : Int) + 1) (fun i => if upAt ls i then none else some false) (ls.length - 1) (fun _ => rfl) (fun k hk _ => ?_) (fun _ => ?_)
  ·obtain ⟨x, hx⟩ := get_some (l := ls) (k := k) (by omega);obtain ⟨y, hy⟩ := get_some (l := ls) (k := k + 1) (by omega);unfold P_r9_Arranged_L1
   have e1 : (k : Int) + 1 - 1 = (k : Int) := by omega
   have e2 : (k : Int) + 1 = ((k + 1 : Nat) : Int) := by omega
   rw [if_pos (by omega), e1, e2, el_at hy, chk_pos (i64_small (by omega)), el_at hx, chk_pos (i64_small (by omega))]
   have e : upAt ls k ↔ x ≤ y := ⟨fun h => h x y hx hy, fun h x' y' hx' hy' => by rw [hx] at hx'; rw [hy] at hy'; cases hx'; cases hy'; exact h⟩
   by_cases h : y < x
   ·rw [if_pos h, if_neg (fun k => by have := e.1 k; omega)]; rfl
   ·rw [if_neg h, if_pos (e.2 (by omega))]; rfl
  ·unfold P_r9_Arranged_L1;rw [if_neg (by omega)]
 rw [key, seqx_scan, find_if]
 by_cases h : ∀ j, j < ls.length - 1 → upAt ls j
 ·have hup : ∀ k, upAt ls k := fun k x y hx hy => h k (by have := (List.getElem?_eq_some_iff.1 hy).1; omega) x y hx hy
  rw [if_pos h]
  show seqx _ _ = _;rw [iter_scanI (fun i => if fitAt sh (withS books ls) i then none else some false) sh.length, seqx_scan, find_if]
  ·by_cases g : ∀ j, j < sh.length → fitAt sh (withS books ls) j
   ·rw [if_pos g, decide_eq_true];exact ⟨hup, fun s a ha => g s (List.getElem?_eq_some_iff.1 ha).1 a ha⟩
   ·rw [if_neg g, decide_eq_false];exact fun k => g fun j _ => k.2 j
  ·intro k hk _;obtain ⟨a, ha⟩ := get_some hk;unfold P_r9_Arranged_L2;rw [if_pos (by omega), r9_fit_gen ha hb hl hls, andx_some', chk_pos (i64_small (by omega))]
   have e : fitAt sh (withS books ls) k ↔ fits (withS books ls) k a := ⟨fun h => h a ha, fun h a' ha' => by rw [ha] at ha'; cases ha'; exact h⟩
   by_cases g : fits (withS books ls) k a
   ·rw [decide_eq_true g, if_pos rfl, if_pos (e.2 g)]; rfl
   ·rw [decide_eq_false g, if_neg (by decide), if_neg fun k => g (e.1 k)]; rfl
  ·intro _;unfold P_r9_Arranged_L2;rw [if_neg (by omega)]
 ·rw [if_neg h, decide_eq_false];exact fun k => h fun j _ => k.1 j
def movedN : List qA → List Int → Nat → Int → Int
 | b :: r, s :: ls, i, but => (if ¬ (i : Int) = but ∧ ¬ s = b.shelf then 1 else 0) + movedN r ls (i + 1) but
 | _, _, _, _ => 0
theorem movedN_cons {b : qA} {r : List qA} {s : Int} {ls : List Int} {i : Nat} {but : Int} : movedN (b :: r) (s :: ls) i but = (if ¬ (i : Int) = but ∧ ¬ s = b.shelf then 1 else 0) + movedN r ls (i + 1) but := rfl
theorem movedN_nil {ls : List Int} {i : Nat} {but : Int} : movedN [] ls i but = 0 := rfl
theorem movedN_bound : ∀ (books : List qA) (ls : List Int) (i : Nat) (but : Int), 0 ≤ movedN books ls i but ∧ movedN books ls i but ≤ books.length
 | [], _, _, _ => by simp [movedN]
 | _ :: _, [], _, _ => by simp [movedN]; omega
 | b :: r, s :: ls, i, but => by
  have := movedN_bound r ls (i + 1) but;unfold movedN;simp only [List.length_cons];split <;> omega
theorem r9_Moved_eq {but : Int} (hl : books.length ≤ 1000) (hls : ls.length = books.length) : P_r9_Moved books ls but = some (movedN books ls 0 but) := by
 refine Ok.get ?_;unfold P_r9_Moved;refine Ok.andx (P := fun r => r = movedN books ls 0 but) ?_ (fun r hr => .some hr);refine Ok.count (fun (x : Int × Int) => x.2) books.length (fun k x => x.1 + movedN (books.drop k) (ls.drop k) k but = movedN books ls 0 but ∧ 0 ≤ x.1 ∧ x.1 ≤ k) rfl ⟨by simp, by simp, by simp⟩ ?_ ?_
 ·rintro k ⟨n, i⟩ hk hx ⟨h1, h2, h3⟩;simp only at hx h1 h2 h3;subst hx;obtain ⟨b, hb⟩ := get_some hk;obtain ⟨s, hs⟩ := get_some (l := ls) (k := k) (by omega)
  have hks : k < ls.length := by omega
  have ea : books.drop k = b :: books.drop (k + 1) := by rw [← List.getElem_cons_drop hk]; congr 1; exact Option.some.inj ((List.getElem?_eq_getElem hk).symm.trans hb)
  have eb : ls.drop k = s :: ls.drop (k + 1) := by rw [← List.getElem_cons_drop hks]; congr 1; exact Option.some.inj ((List.getElem?_eq_getElem hks).symm.trans hs)
  rw [ea, eb, movedN_cons] at h1;unfold P_r9_Moved_L1
  show Ok (if _ then _ else _) _;rw [if_pos (by omega)]
  by_cases g1 : (k : Int) = but
  ·rw [if_neg (not_not_intro g1)];rw [if_neg (fun h => h.1 g1)] at h1
   show Ok (andx (some n) _) _;rw [andx_some'];refine .chk (i64_small (by omega)) (.some ⟨rfl, ?_, ?_, ?_⟩)
   ·show n + _ = _; omega
   ·show 0 ≤ n; omega
   ·show n ≤ ((k + 1 : Nat) : Int); omega
  ·rw [if_pos g1, el_at hs, el_at hb, andx_some']
   by_cases g2 : s = b.shelf
   ·rw [if_neg (fun h => h.2 g2)] at h1;rw [decide_eq_false (not_not_intro g2), if_neg (by decide), andx_some'];refine .chk (i64_small (by omega)) (.some ⟨rfl, ?_, ?_, ?_⟩)
    ·show n + _ = _; omega
    ·show 0 ≤ n; omega
    ·show n ≤ ((k + 1 : Nat) : Int); omega
   ·rw [if_pos ⟨g1, g2⟩] at h1;rw [decide_eq_true g2, if_pos rfl, chk_pos (i64_small (by omega)), andx_some'];refine .chk (i64_small (by omega)) (.some ⟨rfl, ?_, ?_, ?_⟩)
    ·show n + 1 + _ = _; omega
    ·show 0 ≤ n + 1; omega
    ·show n + 1 ≤ ((k + 1 : Nat) : Int); omega
 ·rintro ⟨n, i⟩ hx ⟨h1, h2, h3⟩;simp only at hx h1 h2 h3;subst hx;unfold P_r9_Moved_L1
  show Ok (if _ then _ else _) _;rw [if_neg (by omega)];rw [List.drop_of_length_le (Nat.le_refl _), movedN_nil] at h1;refine .some ?_
  show n = _;omega
end
end Go.Am
end
section
namespace Go.Am
set_option linter.unusedVariables false
set_option linter.unusedSimpArgs false
abbrev Way := Int × List Int
def pick (z : Way) (f : Nat → Option Way) : Nat → Way
 | 0 => z
 | n + 1 => match f n with
  | some c => if c.1 < (pick z f n).1 then c else pick z f n
  | none => pick z f n
theorem pick_le {z : Way} {f : Nat → Option Way} : ∀ {N n : Nat} {c : Way}, n < N → f n = some c → (pick z f N).1 ≤ c.1
 | N + 1, n, c, hn, hc => by
  unfold pick
  by_cases e : n = N
  ·subst e;rw [hc];simp only;split <;> omega
  ·have ih := pick_le (z := z) (show n < N by omega) hc;cases hf : f N with
   | none => exact ih
   | some d =>
    simp only;split <;> omega
theorem pick_top {z : Way} {f : Nat → Option Way} : ∀ (N : Nat), (pick z f N).1 ≤ z.1
 | 0 => Int.le_refl _
 | N + 1 => by
  have ih := pick_top (z := z) (f := f) N;unfold pick;cases hf : f N with
  | none => exact ih
  | some d =>
   simp only;split <;> omega
theorem pick_cases {z : Way} {f : Nat → Option Way} : ∀ (N : Nat), pick z f N = z ∨ ((pick z f N).1 < z.1 ∧ ∃ n, n < N ∧ f n = some (pick z f N) ∧ ∀ k, k < n → ∀ c, f k = some c → (pick z f N).1 < c.1)
 | 0 => .inl rfl
 | N + 1 => by
  have ih := pick_cases (z := z) (f := f) N
  have top := pick_top (z := z) (f := f) N;unfold pick;cases hf : f N with
  | none =>
   rcases ih with h | ⟨h0, n, h1, h2, h3⟩
   ·exact .inl h
   ·exact .inr ⟨h0, n, by omega, h2, h3⟩
  | some d =>
   simp only
   by_cases hd : d.1 < (pick z f N).1
   ·rw [if_pos hd];refine .inr ⟨by omega, N, by omega, hf, fun k hk c hc => ?_⟩
    have := pick_le (z := z) hk hc;omega
   ·rw [if_neg hd]
    rcases ih with h | ⟨h0, n, h1, h2, h3⟩
    ·exact .inl h
    ·exact .inr ⟨h0, n, by omega, h2, h3⟩
section
variable (sh : List qH) (mv : Int → Int → Int)
def capAt (a : qH) (n shelf : Nat) (left : Int) : Int := if n = shelf then left else a.wide
def canAt (b : qA) (i shelf : Nat) (left : Int) (n : Nat) (a : qH) : Prop := shelf ≤ n ∧ b.wide ≤ capAt a n shelf left ∧ b.high ≤ a.high ∧ mv i n ≠ 1000
instance (b : qA) (i shelf : Nat) (left : Int) (n : Nat) (a : qH) : Decidable (canAt mv b i shelf left n a) := inferInstanceAs (Decidable (_ ∧ _))
def feas : List qA → Nat → Nat → Int → List Nat → Prop
 | [], _, _, _, [] => True
 | b :: r, i, shelf, left, n :: ls => ∃ a, sh[n]? = some a ∧ canAt mv b i shelf left n a ∧ feas r (i + 1) n (capAt a n shelf left - b.wide) ls
 | _, _, _, _, _ => False
def cost : Nat → List Nat → Int
 | _, [] => 0
 | i, n :: ls => mv i n + cost (i + 1) ls
def candW (b : qA) (i shelf : Nat) (left : Int) (rec : Nat → Int → Way) (n : Nat) : Option Way :=
 match sh[n]? with
 | some a => if canAt mv b i shelf left n a then
   (if (rec n (capAt a n shelf left - b.wide)).1 < 1000 then some (mv i n + (rec n (capAt a n shelf left - b.wide)).1, (n : Int) :: (rec n (capAt a n shelf left - b.wide)).2) else none) else none
 | none => none
def bestW : List qA → Nat → Nat → Int → Way
 | [], _, _, _ => (0, [])
 | b :: r, i, shelf, left => pick (1000, List.replicate (r.length + 1) 0) (candW sh mv b i shelf left fun n l => bestW r (i + 1) n l) sh.length
end
section
variable {sh : List qH} {mv : Int → Int → Int}
def intsOf (ls : List Nat) : List Int := ls.map fun n : Nat => (n : Int)
theorem feas_nil {i shelf : Nat} {left : Int} {ls : List Nat} (h : feas sh mv [] i shelf left ls) : ls = [] := by
 cases ls with
 | nil => rfl
 | cons n ls => exact h.elim
theorem feas_cons {b : qA} {r : List qA} {i shelf : Nat} {left : Int} {ls : List Nat} (h : feas sh mv (b :: r) i shelf left ls) : ∃ n l a, ls = n :: l ∧ sh[n]? = some a ∧ canAt mv b i shelf left n a ∧ feas sh mv r (i + 1) n (capAt a n shelf left - b.wide) l := by
 cases ls with
 | nil => exact h.elim
 | cons n l =>
  obtain ⟨a, h1, h2, h3⟩ := h;exact ⟨n, l, a, rfl, h1, h2, h3⟩
structure Best (sh : List qH) (mv : Int → Int → Int) (bs : List qA) (i shelf : Nat) (left : Int) (w : Way) : Prop where
 low : 0 ≤ w.1
 found : w.1 < 1000 → ∃ ls, w.2 = intsOf ls ∧ feas sh mv bs i shelf left ls ∧ cost mv i ls = w.1
 none : ¬ w.1 < 1000 → w = (1000, List.replicate bs.length 0)
 least : ∀ ls, feas sh mv bs i shelf left ls → cost mv i ls < 1000 → w.1 ≤ cost mv i ls ∧ (cost mv i ls = w.1 → lexB (intsOf ls) w.2 = false)
theorem bestW_spec (hmv : ∀ i n, 0 ≤ mv i n) : ∀ (bs : List qA) (i shelf : Nat) (left : Int), Best sh mv bs i shelf left (bestW sh mv bs i shelf left)
 | [], i, shelf, left => by
  refine ⟨Int.le_refl _, fun _ => ⟨[], rfl, trivial, rfl⟩, fun h => absurd (show (0 : Int) < 1000 by decide) h, fun ls h _ => ?_⟩
  have := feas_nil h;subst this;exact ⟨Int.le_refl _, fun _ => rfl⟩
 | b :: r, i, shelf, left => by
  have ih := bestW_spec hmv r (i + 1)
  show Best sh mv (b :: r) i shelf left (pick (1000, List.replicate (r.length + 1) 0) (candW sh mv b i shelf left fun n l => bestW sh mv r (i + 1) n l) sh.length);generalize hf : (candW sh mv b i shelf left fun n l => bestW sh mv r (i + 1) n l) = f
  have fOf : ∀ n a, sh[n]? = some a → canAt mv b i shelf left n a → (bestW sh mv r (i + 1) n (capAt a n shelf left - b.wide)).1 < 1000 →
    f n = some (mv i n + (bestW sh mv r (i + 1) n (capAt a n shelf left - b.wide)).1, (n : Int) :: (bestW sh mv r (i + 1) n (capAt a n shelf left - b.wide)).2) := by
   intro n a ha hc hl;rw [← hf];unfold candW;simp only [ha, if_pos hc, if_pos hl]
  have fInv : ∀ n c, f n = some c → ∃ a, sh[n]? = some a ∧ canAt mv b i shelf left n a ∧ (bestW sh mv r (i + 1) n (capAt a n shelf left - b.wide)).1 < 1000 ∧
    c = (mv i n + (bestW sh mv r (i + 1) n (capAt a n shelf left - b.wide)).1, (n : Int) :: (bestW sh mv r (i + 1) n (capAt a n shelf left - b.wide)).2) := by
   intro n c hc;rw [← hf] at hc;unfold candW at hc;simp only at hc;cases ha : sh[n]? with
   | none => rw [ha] at hc; cases hc
   | some a =>
    rw [ha] at hc;simp only at hc
    by_cases h1 : canAt mv b i shelf left n a
    ·rw [if_pos h1] at hc
     by_cases h2 : (bestW sh mv r (i + 1) n (capAt a n shelf left - b.wide)).1 < 1000
     ·rw [if_pos h2] at hc;cases hc;exact ⟨a, rfl, h1, h2, rfl⟩
     ·rw [if_neg h2] at hc; cases hc
    ·rw [if_neg h1] at hc; cases hc
  have key : ∀ ls, feas sh mv (b :: r) i shelf left ls → cost mv i ls < 1000 → ∃ n l c, ls = n :: l ∧ n < sh.length ∧ f n = some c ∧ c.1 ≤ cost mv i ls ∧ (cost mv i ls = c.1 → lexB (intsOf ls) c.2 = false) ∧ ∃ x, c.2 = (n : Int) :: x := by
   intro ls hfe hc;obtain ⟨n, l, a, rfl, ha, hcan, hrest⟩ := feas_cons hfe
   have h0 := hmv i n
   have hcl : cost mv (i + 1) l < 1000 := by unfold cost at hc; omega
   obtain ⟨h1, h2⟩ := (ih n (capAt a n shelf left - b.wide)).least l hrest hcl;refine ⟨n, l, _, rfl, (List.getElem?_eq_some_iff.1 ha).1, fOf n a ha hcan (by omega), ?_, fun he => ?_, _, rfl⟩
   ·show mv i n + _ ≤ mv i n + _;omega
   ·have he' : mv i n + cost mv (i + 1) l = mv i n + (bestW sh mv r (i + 1) n (capAt a n shelf left - b.wide)).1 := he
    show lexB ((n : Int) :: intsOf l) ((n : Int) :: _) = false;rw [lexB, if_pos rfl];exact h2 (by omega)
  rcases pick_cases (z := (1000, List.replicate (r.length + 1) 0)) (f := f) sh.length with h | ⟨h0, n0, hn0, hfn, hmin⟩
  ·rw [h];refine ⟨show (0 : Int) ≤ 1000 by decide, fun hh => absurd hh (show ¬ (1000 : Int) < 1000 by decide), fun _ => rfl, fun ls hfe hc => ?_⟩;obtain ⟨n, l, c, _, hn, hfn, hle, _⟩ := key ls hfe hc
   have := pick_le (z := (1000, List.replicate (r.length + 1) 0)) hn hfn;rw [h] at this;simp only at this;omega
  ·obtain ⟨a, ha, hcan, hlt, hw⟩ := fInv n0 _ hfn;obtain ⟨ls0, e1, e2, e3⟩ := (ih n0 (capAt a n0 shelf left - b.wide)).found hlt
   have hlow := (ih n0 (capAt a n0 shelf left - b.wide)).low
   have hm0 := hmv i n0
   have hw1 := congrArg Prod.fst hw
   have hw2 := congrArg Prod.snd hw;simp only at hw1 hw2 h0;refine ⟨by omega, fun _ => ⟨n0 :: ls0, by rw [hw2, e1]; rfl, ⟨a, ha, hcan, e2⟩, by rw [hw1, ← e3]; rfl⟩, fun hh => absurd h0 hh, fun ls hfe hc => ?_⟩;obtain ⟨n, l, c, rfl, hn, hfn', hle, hlex, x, hx⟩ := key ls hfe hc
   have hp := pick_le (z := (1000, List.replicate (r.length + 1) 0)) hn hfn';refine ⟨by omega, fun he => ?_⟩
   by_cases hlt' : n < n0
   ·have := hmin n hlt' c hfn';omega
   ·by_cases heq : n = n0
    ·subst heq;rw [hfn] at hfn';cases hfn';exact hlex he
    ·rw [hw2]
     show lexB ((n : Int) :: intsOf l) ((n0 : Int) :: _) = false;rw [lexB, if_neg (by omega)];exact decide_eq_false (by omega)
end
end Go.Am
end
