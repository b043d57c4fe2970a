/- Part 14. -/
import Derived.Test.YtiaolgbmbhldgaaGreatDoorDP13
section
namespace Go.Am.YtiaolgbmbhldgaaGreatDoor
open Go.Am Go.RowKit
set_option linter.unusedVariables false
set_option maxRecDepth 100000
theorem hu_ty167 : pureVal Go.Proofs.Tryz.prog (underlying 167) = some Go.Proofs.Tryz.t166.desc := by kernel_rfl
theorem eq_ty167 (k q : K3) : pureVal Go.Proofs.Tryz.prog (Op.equal 167 (keyV k) (keyV q)) = some (decide (k = q)) := by
 obtain ⟨a, b, c⟩ := k;obtain ⟨a', b', c'⟩ := q
 have h := pure_eq3 (P := Go.Proofs.Tryz.prog) (t := 167) (xs := #[.int .i64 a, .int .i64 b, .int .i64 c]) (ys := #[.int .i64 a', .int .i64 b', .int .i64 c']) (a0 := a) (b0 := a') (a1 := b) (b1 := b') (a2 := c) (b2 := c') hu_ty167 (by kernel_rfl)
  ⟨by decide, ⟨.i64, by kernel_rfl⟩, by kernel_rfl⟩ ⟨by decide, ⟨.i64, by kernel_rfl⟩, by kernel_rfl⟩ ⟨by decide, ⟨.i64, by kernel_rfl⟩, by kernel_rfl⟩ ⟨by decide, ⟨.i64, by kernel_rfl⟩, by kernel_rfl⟩ ⟨by decide, ⟨.i64, by kernel_rfl⟩, by kernel_rfl⟩ ⟨by decide, ⟨.i64, by kernel_rfl⟩, by kernel_rfl⟩
 refine h.trans ?_
 congr 1
 by_cases h1 : a = a' <;> by_cases h2 : b = b' <;> by_cases h3 : c = c' <;> simp [h1, h2, h3]
theorem key_ty167 {k : Nat} : KeyG (EL k).P 167 KTrip := keyTrip (P := Go.Proofs.Tryz.prog) hu_ty167 (fun q e => by kernel_rfl) eq_ty167
theorem vec_ty136 {k : Nat} : VecT (EL k).P 136 11 := VecT.of (P := Go.Proofs.Tryz.prog) (t := 136) (len := 11) (elem := 3) (k' := .i64) (by kernel_rfl) (by kernel_rfl) (by kernel_rfl) (by kernel_rfl) (by kernel_rfl)
theorem tf_arrange {k : Nat} {C : List Thing} {vC vS vB : AV} {c : FuncId} {first caps : List AV} {sh : List qH} {books : List qA} {F : Int → Int → Option Int} {r : Int × List Int}
    (hS : Rdl C qW vS sh) (hB : Rdl C qK vB books) {fnc : Func} (hcf : (EL k).fn c = some fnc) (hco : (EL k).orc c = none)
    (hF : ∀ (hs' : List Thing) (i n v : Int), (∀ x ∈ C, x ∈ hs') → F i n = some v → TF (EL k) c (first ++ [iv i, iv n] ++ caps) hs' (RepF (fun _ : Unit => iv v) fun _ => hs')) (h : P_s9_arrange sh books F = some r) :
    TF (EL k) 97 [.agg [vC, vS, vB], .func c first caps] C (RepF (fun _ : Unit => .agg (restC r.1 r.2)) fun _ => C) := by
  obtain ⟨a0, ha0, hok, hr, hlen⟩ := arrange_some h
  obtain ⟨⟨h11, hs4⟩, hbw, hsw, hall⟩ := hok
  refine TF.enterG (fn := Go.Proofs.Tryz.f97) rfl rfl rfl rfl rfl ?_
  refine T.seq ?_
  refine T.text rfl ?_
  refine TO.box (k := 3) (cells := [_, _, _]) rfl rfl rfl rfl rfl rfl rfl (fun idr => ?_)
  refine TO.box (k := 1) (cells := [_]) rfl rfl rfl rfl rfl rfl rfl (fun idv => ?_)
  refine TO.alloc (k := 12) (cells := restC 0 (List.replicate 11 0)) rfl rfl rfl rfl rfl rfl rfl (fun b4 => ?_)
  refine TO.nil ?_
  refine T.seq ?_
  refine T.text rfl ?_
  refine TO.makeMap3 rfl rfl rfl (fun idm => ?_)
  refine TO.alloc (k := 1) (cells := [_]) rfl rfl rfl rfl rfl rfl rfl (fun idk => ?_)
  refine TO.eff0 rfl rfl (Eff.store_row (p := 0) (cv := [_]) (cells' := [_]) rfl rfl rfl rfl rfl rfl rfl rfl rfl (by decide) rfl) ?_
  rintro _ rfl
  refine TO.things (hs' := .row idk 1 [.map idm] :: memT idm [] :: .row b4 1 (restC 0 (List.replicate 11 0)) :: .row idv 1 [.func c first caps] :: .row idr 3 [vC, vS, vB] :: C) rfl ?_
  refine TO.nil ?_
  refine T.seq ?_
  refine T.text rfl ?_
  refine TO.alloc (k := 1) (cells := [_]) rfl rfl rfl rfl rfl rfl rfl (fun idf => ?_)
  refine TO.nil ?_
  refine T.seq ?_
  refine T.text rfl ?_
  refine TO.val rfl rfl rfl (Val.makeFunc rfl rfl) ?_
  refine TO.eff0 rfl rfl (Eff.store_row (p := 0) (cv := [_]) (cells' := [_]) rfl rfl rfl rfl rfl rfl rfl rfl rfl (by decide) rfl) ?_
  rintro _ rfl
  refine TO.things (hs' := .row idf 1 [.func 132 [] [.ptr idr 0 3, .ptr idk 0 1, .ptr idv 0 1, .ptr idf 0 1]] :: .row idk 1 [.map idm] :: memT idm [] :: .row b4 1 (restC 0 (List.replicate 11 0)) :: .row idv 1 [.func c first caps] :: .row idr 3 [vC, vS, vB] :: C) rfl ?_
  refine TO.nil ?_
  have F0 : Finds (.row idf 1 [.func 132 [] [.ptr idr 0 3, .ptr idk 0 1, .ptr idv 0 1, .ptr idf 0 1]] :: .row idk 1 [.map idm] :: memT idm [] :: .row b4 1 (restC 0 (List.replicate 11 0)) :: .row idv 1 [.func c first caps] :: .row idr 3 [vC, vS, vB] :: C) C 5 1 4 0 2 idr idk idv idf idm vC vS vB c first caps [] :=
    ⟨rfl, rfl, rfl, rfl, rfl, fun x hx => by
      obtain ⟨i, hi⟩ := List.getElem?_of_mem hx
      exact ⟨i + 6, by omega, hi⟩⟩
  refine T.seq ?_
  refine T.drawE (l1 := [0, 1, 2, 3, 4, 5, 6, 7]) (l2 := [8, 9]) (by kernel_rfl) (by kernel_rfl) ?_
  refine TD1.read rfl rfl rfl rfl (Val.load_row (p := 0) rfl ⟨_, rfl, rfl⟩ rfl rfl rfl) ?_
  refine TD1.light rfl rfl rfl rfl (Val.faddr_ptr (fo := 0) rfl rfl rfl) ?_
  refine TD1.light rfl rfl rfl rfl (Val.faddr_ptr (fo := 1) rfl rfl rfl) ?_
  refine TD1.read rfl rfl rfl rfl (Val.load_row (p := 5) rfl ⟨_, rfl, rfl⟩ rfl rfl rfl) ?_
  have h0lt := (List.getElem?_eq_some_iff.1 ha0).1
  refine TD1.fact (rdl_at (k := (0 : Int)) (a := a0) hS (memS (memS (memS (memS (memS (memS mem0)))))) ⟨by omega, by omega⟩ ha0) (fun hp => ?_)
  obtain ⟨pa, hpa, hva⟩ := hp
  refine TD1.light rfl rfl rfl rfl (hva ⟨rfl, rfl⟩ rfl rfl) ?_
  refine TD1.light rfl rfl rfl rfl (Val.faddr_e (fo := 2) hpa rfl rfl rfl) ?_
  refine TD1.read rfl rfl rfl rfl (Val.load_e (PtE.add hpa (by decide)) (memS (memS (memS (memS (memS (memS mem0)))))) ⟨_, rfl, rfl⟩ rfl rfl) ?_
  refine TD1.light rfl rfl rfl rfl (Val.buildC (cs := [iv 0, iv 0, iv a0.wide]) (vs := [(_, _), (_, _), (_, _)]) (ws := [(_, [_]), (_, [_]), (_, [_])]) rfl rfl (CellsL.cons rfl (CellsL.cons rfl (CellsL.cons rfl CellsL.nil))) rfl) ?_
  refine TD1.over (fun v => sameC_refl v) (all_cons (⟨_, rfl, (Val.load_e (PtE.add hpa (by decide)) (memS (memS (memS (memS (memS (memS mem0)))))) ⟨_, rfl, rfl⟩ rfl rfl)⟩) (all_cons (⟨_, rfl, (Val.load_row (p := 5) rfl ⟨_, rfl, rfl⟩ rfl rfl rfl)⟩) (all_cons (⟨_, rfl, (Val.load_row (p := 0) rfl ⟨_, rfl, rfl⟩ rfl rfl rfl)⟩) all_nil))) ?_
  have hfind := tf_find hS hB key_ty167 h11 hs4 (fun i n => (mvOf_rng F i n).1) (fun i n => (mvOf_rng F i n).2) hcf hco hbw hsw (fun hs' i n hC hi hn => hF hs' i n _ hC (hall i n hi hn)) 12 F0 (fun q v hq => by cases hq) 0 0 a0.wide (Nat.zero_le _) (by omega) (hsw a0 (List.mem_of_getElem? ha0))
  refine TD2.heavy (fun v => sameC_refl v) rfl (by decide) rfl rfl (OpS.callV rfl rfl rfl rfl (orcN rfl) (RepF.conv hfind)) ?_
  rintro _ hs_ ⟨m', rfl, he_⟩
  subst hs_
  refine ⟨(all_cons (.inl (by kernel_rfl)) (all_cons (.inl (by kernel_rfl)) (all_cons (.inl (by kernel_rfl)) all_nil))), all_nil, ?_⟩
  have hw : r = ((wayAt sh (mvOf F) books 0 0 a0.wide).1, arrW 0 (wayAt sh (mvOf F) books 0 0 a0.wide)) := hr
  have hout : outV 0 (wayAt sh (mvOf F) books 0 0 a0.wide) = .agg (restC r.1 r.2) := by rw [hw]; rfl
  rw [hout]
  refine TD2.things (hs' := .row idf 1 [.func 132 [] [.ptr idr 0 3, .ptr idk 0 1, .ptr idv 0 1, .ptr idf 0 1]] :: .row idk 1 [.map idm] :: memT idm m'.1 :: .row b4 1 (restC 0 (List.replicate 11 0)) :: .row idv 1 [.func c first caps] :: .row idr 3 [vC, vS, vB] :: C) rfl ?_
  refine TD2.heavy (fun v => sameC_refl v) rfl (by decide) rfl rfl (OpS.eff (Eff.store_rest (p := 3) (k := 11) (l' := r.2) (n' := r.1) rfl rfl hlen rfl rfl rfl)) ?_
  rintro _ _ rfl
  refine ⟨(all_cons (.inl (by kernel_rfl)) (all_cons (.inl (by kernel_rfl)) (all_cons (.inl (by kernel_rfl)) all_nil))), all_nil, ?_⟩
  refine TD2.things (hs' := .row idf 1 [.func 132 [] [.ptr idr 0 3, .ptr idk 0 1, .ptr idv 0 1, .ptr idf 0 1]] :: .row idk 1 [.map idm] :: memT idm m'.1 :: .row b4 1 (restC r.1 r.2) :: .row idv 1 [.func c first caps] :: .row idr 3 [vC, vS, vB] :: C) rfl ?_
  refine TD2.nil ?_
  refine T.ret ?_
  exact ⟨rfl, _, rfl, [_], ⟨⟨_, rfl, LoadR.rows (p := 3) (c := restC r.1 r.2) rfl ⟨⟨_, rfl, rfl⟩, rfl, by decide⟩ (restC_len hlen) (by rw [List.drop_zero, List.take_of_length_le (by rw [restC_len hlen]; exact Nat.le_refl _)]) rfl⟩, trivial⟩, ⟨(), rfl, .drop (.drop (.drop (.drop (.drop (.drop .refl)))))⟩⟩
theorem tf_cloneA {k p id cap : Nat} {hs : List Thing} {m : Int} {l : List Int} {n : Int} (hp : hs[p]? = some (.row id 1 (restC m l))) (hl : l.length = 11) (hn : 0 ≤ n ∧ n ≤ 11) :
    TF (EL k) 101 [.slice id 1 12 true n.toNat cap] hs (RepF (fun v : AV => v) fun v => ownL false v encI (l.take n.toNat) :: hs) := by
  refine TF.enter (fn := Go.Proofs.Tryz.f101) rfl rfl rfl rfl rfl ?_
  refine T.seq ?_
  refine T.text rfl ?_
  refine TO.val rfl rfl rfl (Val.assign rfl) ?_
  refine TO.nil ?_
  refine T.seq ?_
  refine T.seq ?_
  refine T.text rfl ?_
  refine TO.val rfl rfl rfl (Val.move rfl) ?_
  refine TO.val rfl rfl rfl (Val.nil_eqS rfl rfl rfl) ?_
  refine TO.nil ?_
  refine T.condF (fun a ha => ha.ev (.tmp 4) _ rfl) ?_
  refine T.skip ?_
  refine T.seq ?_
  refine T.text rfl ?_
  refine TO.build0 (en := encI) rfl rfl rfl ⟨rfl, rfl⟩ (fun v => ?_)
  refine TO.val rfl rfl rfl (Val.move rfl) ?_
  refine TO.eff rfl rfl rfl (Eff.append_row (b := 8) (l := []) (l2 := l.take n.toNat) (p := 0) (q := p + 1) ⟨rfl, rfl, rfl, ⟨_, rfl, rfl⟩, by decide, by decide⟩ rfl rfl rfl hp (restC_len hl) (by
    show (vecC l).take n.toNat = vecC (l.take n.toNat)
    rw [vecC, vecC, List.map_take]) (by omega) rfl rfl (by decide) (by simp; omega)) ?_
  rintro v7 _ rfl
  refine TO.things (hs' := ownL false v7 encI (l.take n.toNat) :: hs) rfl ?_
  refine TO.val rfl rfl rfl (Val.assign rfl) ?_
  refine TO.nil ?_
  refine T.ret ?_
  exact ⟨rfl, _, rfl, ⟨v7, rfl, .refl⟩⟩
end Go.Am.YtiaolgbmbhldgaaGreatDoor
end
section
namespace Go.Am.YtiaolgbmbhldgaaGreatDoor
open Go.Am Go.RowKit
set_option linter.unusedVariables false
set_option linter.unusedSimpArgs false
set_option maxRecDepth 10000 in
theorem tf_s9_own {k : Nat} (hk : 0 ≤ k) {C : List Thing} {v_r_SfRoom_Classes : AV} {r_SfRoom_Classes : List Str} {v_r_SfRoom_Shelves : AV} {r_SfRoom_Shelves : List qH} {v_r_SfRoom_Books : AV} {r_SfRoom_Books : List qA} {i : Int} {shelf : Int} (h_r_SfRoom_Classes : Rdl C encStr v_r_SfRoom_Classes r_SfRoom_Classes) (h_r_SfRoom_Shelves : Rdl C qW v_r_SfRoom_Shelves r_SfRoom_Shelves) (h_r_SfRoom_Books : Rdl C qK v_r_SfRoom_Books r_SfRoom_Books) {r : Int} (h : P_s9_own r_SfRoom_Classes r_SfRoom_Shelves r_SfRoom_Books i shelf = some r) :
  TF (EL k) 99 [.agg [v_r_SfRoom_Classes, v_r_SfRoom_Shelves, v_r_SfRoom_Books], iv (i), iv (shelf)] C (RepF (fun (w : Unit) => iv r) (fun (w : Unit) => C)) := by
 unfold P_s9_own at h;refine TF.enter (fn := Go.Proofs.Tryz.f99) rfl rfl rfl rfl rfl (zU rfl (zQ 3 [_,_,_] R7 (fun b3=>zA R4 (zN (zS (zU rfl (zF 0 R6 (zF 2 R6 (zL 0 R3 R6 (zM R4 ?_))))))))));obtain ⟨a11, hia11, ea11, h⟩ := el_some h;refine TO.fact (rdl_at h_r_SfRoom_Books M1 hia11 ea11) (fun hp=>?_);obtain ⟨pa11, hpa11, hva11⟩ := hp;refine zV R3 (hva11 ⟨rfl, rfl⟩ rfl rfl) (zV R3 (Val.faddr_e (fo := 6) hpa11 rfl rfl rfl) (zV R3 (Val.load_e (PtE.add hpa11 (by decide)) M1 ⟨_, rfl, rfl⟩ rfl rfl) (zM R4 ?_)));obtain ⟨c15, hc15⟩ := zY (a11.shelf = shelf);refine zV R3 (Val.eql hc15 rfl rfl) (zN ?_);obtain ⟨rfl, hc15, h⟩ | ⟨rfl, hc15, h⟩ := zI hc15 h
 ·refine zC rfl (zU rfl (zA R4 (zN (zR ?_))));cases h;exact ⟨rfl, _, rfl, ⟨(), rfl, (pk [98] rfl)⟩⟩
 refine zD rfl (zK (zU rfl (zA R4 (zN (zR ?_)))));cases h;exact ⟨rfl, _, rfl, ⟨(), rfl, (pk [98] rfl)⟩⟩
set_option maxRecDepth 10000 in
theorem tf_s9_Fits1 {k : Nat} (hk : 0 ≤ k) {C : List Thing} {i : Int} {shelf : Int} {id_p2 : Nat} {p2_x : Int} {id_p3 : Nat} {p3_x : Int} {id_p4 : Nat} {v_p4_SfRoom_Classes : AV} {p4_SfRoom_Classes : List Str} {v_p4_SfRoom_Shelves : AV} {p4_SfRoom_Shelves : List qH} {v_p4_SfRoom_Books : AV} {p4_SfRoom_Books : List qA} (h_p2 : Thing.row id_p2 1 [iv (p2_x)] ∈ C) (h_p3 : Thing.row id_p3 1 [iv (p3_x)] ∈ C) (h_p4_SfRoom_Classes : Rdl C encStr v_p4_SfRoom_Classes p4_SfRoom_Classes) (h_p4_SfRoom_Shelves : Rdl C qW v_p4_SfRoom_Shelves p4_SfRoom_Shelves) (h_p4_SfRoom_Books : Rdl C qK v_p4_SfRoom_Books p4_SfRoom_Books) (h_p4 : Thing.row id_p4 3 [v_p4_SfRoom_Classes, v_p4_SfRoom_Shelves, v_p4_SfRoom_Books] ∈ C) {r : Int} (h : P_s9_Fits1 i shelf p2_x p3_x p4_SfRoom_Classes p4_SfRoom_Shelves p4_SfRoom_Books = some r) :
  TF (EL k) 98 [iv (i), iv (shelf), .ptr id_p2 0 1, .ptr id_p3 0 1, .ptr id_p4 0 3] C (RepF (fun (w : Unit) => iv r) (fun (w : Unit) => C)) := by
 unfold P_s9_Fits1 at h;refine TF.enter (fn := Go.Proofs.Tryz.f98) rfl rfl rfl rfl rfl (zU rfl (zA R4 (zN ?_)))
 show T _ _ _ _ _ _;apply T.join (r := r) (W := Unit) (fun j w => ⟨[], [], C⟩) h
 ·intro j h
  show T _ _ _ _ _ _;apply T.joinA (r := j) (W := Unit) (fun j w => ⟨[], [(27, bv j)], C⟩) h
  ·intro j h;refine zT rfl (zM R4 (zV R3 (Val.load_rowM h_p2 mem0 ⟨_, rfl, rfl⟩ rfl rfl rfl) ?_));obtain ⟨c10, hc10⟩ := zY (i = p2_x);refine zV R3 (Val.eql hc10 rfl rfl) (zM R4 ?_);obtain ⟨rfl, hc10, h⟩ | ⟨rfl, hc10, h⟩ := zI hc10 h
   ·refine zM R4 (zV R3 (Val.load_rowM h_p3 mem0 ⟨_, rfl, rfl⟩ rfl rfl rfl) ?_);obtain ⟨c14, hc14⟩ := zY (shelf = p3_x);refine zV R3 (Val.eql hc14 rfl rfl) (zP R6 (zM R4 ?_));obtain ⟨rfl, hc14, h⟩ | ⟨rfl, hc14, h⟩ := zI hc14 h
    ·refine zO R3 (zO R3 (zO R3 (zO R3 (zO R3 (zO R3 (zO R3 (zO R3 (zO R3 (zO R3 (zP R6 (zN ?_)))))))))));cases h;exact ⟨rfl, (), (sb .refl)⟩
    refine zM R4 (zV R3 (Val.load_rowM h_p2 mem0 ⟨_, rfl, rfl⟩ rfl rfl rfl) ?_);obtain ⟨c19, hc19⟩ := zY (¬ i = p2_x);refine zV R3 (Val.neq hc19 rfl rfl) (zM R4 ?_);obtain ⟨rfl, hc19, h⟩ | ⟨rfl, hc19, h⟩ := zI hc19 h
    ·refine zV R3 (Val.load_rowsM (c := [_, _, _]) h_p4 mem0 ⟨⟨_, rfl, rfl⟩, rfl, by decide⟩ rfl rfl rfl rfl) (zM R4 (zM R4 ?_));obtain ⟨y24, hr24, h⟩ := andx_some h;refine TO.callT (first := []) (cap := []) (vs := [.agg [v_p4_SfRoom_Classes, v_p4_SfRoom_Shelves, v_p4_SfRoom_Books], iv (i), iv (shelf)]) rfl rfl rfl rfl rfl rfl (orcN rfl) (tf_s9_own aD (Rdl.mono h_p4_SfRoom_Classes mem0) (Rdl.mono h_p4_SfRoom_Shelves mem0) (Rdl.mono h_p4_SfRoom_Books mem0) hr24) ?_;rintro _;refine zG (C) rfl ?_;obtain ⟨c25, hc25⟩ := zY (y24 = 0);refine zV R3 (Val.eql hc25 rfl rfl) (zP R6 (zP R6 (zN ?_)));subst hc25;cases h;exact ⟨rfl, (), (sb .refl)⟩
    refine zO R3 (zO R3 (zO R3 (zO R3 (zO R3 (zP R6 (zP R6 (zN ?_)))))));cases h;exact ⟨rfl, (), (sb .refl)⟩
   refine zO R3 (zO R3 (zO R3 (zP R6 (zM R4 (zM R4 (zV R3 (Val.load_rowM h_p2 mem0 ⟨_, rfl, rfl⟩ rfl rfl rfl) ?_))))));obtain ⟨c19, hc19⟩ := zY (¬ i = p2_x);refine zV R3 (Val.neq hc19 rfl rfl) (zM R4 ?_);obtain ⟨rfl, hc19, h⟩ | ⟨rfl, hc19, h⟩ := zI hc19 h
   ·refine zV R3 (Val.load_rowsM (c := [_, _, _]) h_p4 mem0 ⟨⟨_, rfl, rfl⟩, rfl, by decide⟩ rfl rfl rfl rfl) (zM R4 (zM R4 ?_));obtain ⟨y24, hr24, h⟩ := andx_some h;refine TO.callT (first := []) (cap := []) (vs := [.agg [v_p4_SfRoom_Classes, v_p4_SfRoom_Shelves, v_p4_SfRoom_Books], iv (i), iv (shelf)]) rfl rfl rfl rfl rfl rfl (orcN rfl) (tf_s9_own aD (Rdl.mono h_p4_SfRoom_Classes mem0) (Rdl.mono h_p4_SfRoom_Shelves mem0) (Rdl.mono h_p4_SfRoom_Books mem0) hr24) ?_;rintro _;refine zG (C) rfl ?_;obtain ⟨c25, hc25⟩ := zY (y24 = 0);refine zV R3 (Val.eql hc25 rfl rfl) (zP R6 (zP R6 (zN ?_)));subst hc25;cases h;exact ⟨rfl, (), (sb .refl)⟩
   refine zO R3 (zO R3 (zO R3 (zO R3 (zO R3 (zP R6 (zP R6 (zN ?_)))))));cases h;exact ⟨rfl, (), (sb .refl)⟩
  ·rintro x27 _ h;obtain ⟨rfl, h⟩ | ⟨rfl, h⟩ := zZ h
   ·refine zC rfl (zU rfl (zA R4 (zN (zR ?_))));cases h;exact ⟨ret_ne, ⟨rfl, _, rfl, ⟨(), rfl, .refl⟩⟩⟩
   refine zD rfl (zK ?_);cases h;exact ⟨rfl, (), (sb .refl)⟩
 ·rintro _ _ h;refine zU rfl (zA R4 (zN (zR ?_)));cases h;exact ⟨rfl, _, rfl, ⟨(), rfl, .refl⟩⟩
set_option maxRecDepth 10000 in
theorem tf_s9_Put1 {k : Nat} (hk : 0 ≤ k) {C : List Thing} {i : Int} {shelf : Int} {id_p2 : Nat} {p2_x : Int} {id_p3 : Nat} {v_p3_SfRoom_Classes : AV} {p3_SfRoom_Classes : List Str} {v_p3_SfRoom_Shelves : AV} {p3_SfRoom_Shelves : List qH} {v_p3_SfRoom_Books : AV} {p3_SfRoom_Books : List qA} (h_p2 : Thing.row id_p2 1 [iv (p2_x)] ∈ C) (h_p3_SfRoom_Classes : Rdl C encStr v_p3_SfRoom_Classes p3_SfRoom_Classes) (h_p3_SfRoom_Shelves : Rdl C qW v_p3_SfRoom_Shelves p3_SfRoom_Shelves) (h_p3_SfRoom_Books : Rdl C qK v_p3_SfRoom_Books p3_SfRoom_Books) (h_p3 : Thing.row id_p3 3 [v_p3_SfRoom_Classes, v_p3_SfRoom_Shelves, v_p3_SfRoom_Books] ∈ C) {r : Int} (h : P_s9_Put1 i shelf p2_x p3_SfRoom_Classes p3_SfRoom_Shelves p3_SfRoom_Books = some r) :
  TF (EL k) 100 [iv (i), iv (shelf), .ptr id_p2 0 1, .ptr id_p3 0 3] C (RepF (fun (w : Unit) => iv r) (fun (w : Unit) => C)) := by
 unfold P_s9_Put1 at h;refine TF.enter (fn := Go.Proofs.Tryz.f100) rfl rfl rfl rfl rfl (zU rfl (zA R4 (zN (zS (zU rfl (zM R4 (zV R3 (Val.load_rowM h_p2 mem0 ⟨_, rfl, rfl⟩ rfl rfl rfl) ?_)))))));obtain ⟨c9, hc9⟩ := zY (i = p2_x);refine zV R3 (Val.eql hc9 rfl rfl) (zN ?_);obtain ⟨rfl, hc9, h⟩ | ⟨rfl, hc9, h⟩ := zI hc9 h
 ·refine zC rfl (zU rfl (zA R4 (zN (zR ?_))));cases h;exact ⟨rfl, _, rfl, ⟨(), rfl, .refl⟩⟩
 refine zD rfl (zK (zU rfl (zV R3 (Val.load_rowsM (c := [_, _, _]) h_p3 mem0 ⟨⟨_, rfl, rfl⟩, rfl, by decide⟩ rfl rfl rfl rfl) (zM R4 (zM R4 ?_)))));obtain ⟨y13, hr13, h⟩ := andx_some h;refine TO.callT (first := []) (cap := []) (vs := [.agg [v_p3_SfRoom_Classes, v_p3_SfRoom_Shelves, v_p3_SfRoom_Books], iv (i), iv (shelf)]) rfl rfl rfl rfl rfl rfl (orcN rfl) (tf_s9_own aD (Rdl.mono h_p3_SfRoom_Classes mem0) (Rdl.mono h_p3_SfRoom_Shelves mem0) (Rdl.mono h_p3_SfRoom_Books mem0) hr13) ?_;rintro _;refine zG (C) rfl (zA R4 (zN (zR ?_)));cases h;exact ⟨rfl, _, rfl, ⟨(), rfl, .refl⟩⟩
set_option maxRecDepth 10000 in
theorem tf_s9_Fits {k : Nat} (hk : 1 ≤ k) {C : List Thing} {qF : AV} {qD : List Str} {qE : AV} {qC : List qH} {qG : AV} {qB : List qA} {qL : Int} {qM : Int} {qN : Str} {qJ : Int} {qI : Int} {qR : Int} {qS : Int} (qAb : RdT encStr qF qD) (qAc : RdT qW qE qC) (qZ : RdT qK qG qB) {r : (List Int) × Int} (h : P_s9_Fits qD qC qB qL qM qN qJ qI qR qS = some r) :
  TF (EL k) 30 [.agg [qF, qE, qG], .agg [iv (qL), iv (qM), sv qN, iv (qJ), iv (qI), iv (qR), iv (qS)]] C (RepF (fun (w : AV) => .tuple [w, iv r.2]) (fun (w : AV) => ownL true w encI r.1 :: C)) := by
 unfold P_s9_Fits at h
 have qV : Rdl C encStr qF qD := RdT.rdl qAb
 have qT : Rdl C qW qE qC := RdT.rdl qAc
 have qU : Rdl C qK qG qB := RdT.rdl qZ;refine TF.enter (fn := Go.Proofs.Tryz.f30) rfl rfl rfl rfl rfl (zU rfl (zQ 3 [_,_,_] R7 (fun b2=>zQ 7 [_,_,_,_,_,_,_] R7 (fun b3=>zA R4 (zA R4 (zN (zU rfl (zV R3 (vW 1 [_,_,_] R5 R4) (zV R3 (vW 0 [_,_,_,_,_,_,_] R5 R4) ?_)))))))));obtain ⟨y16, hr16, h⟩ := andx_some h;cases y16 with
 | inl y16 =>
  obtain ⟨y16_2, y16_3⟩ := y16;dsimp only at h;refine TO.callT (first := []) (cap := []) (vs := [.agg [qF, qE, qG], .agg [iv (qL), iv (qM), sv qN, iv (qJ), iv (qI), iv (qR), iv (qS)]]) rfl rfl rfl rfl rfl rfl (orcN rfl) (tf_s9_enter aD qAb qAc qZ hr16) ?_;rintro _;refine zG (_::_::C) rfl (zM R4 (zX R5 (zX R5 (zX R5 (zJ 3 [_,_,_] R7 (fun b6=>zJ 1 [_] R7 (fun b7=>TO.fact (rdl_cellS qV M4) (fun qX=>TO.fact (rdl_cellS qT M4) (fun qY=>TO.fact (rdl_cellS qU M4) (fun qAa=>TO.eff0 rfl rfl (Eff.store_row (p := 1) (cv := [_, _, _]) (cells' := [_, _, _]) rfl rfl rfl rfl rfl rfl rfl rfl (by first | rfl | (simp [GS.one, qX.2, qY.2, qAa.2]; done) | (simp [GS.one, qX.2, qY.2, qAa.2]; (repeat' apply And.intro) <;> rfl)) (by decide) rfl) ?_))))))))));rintro _ rfl;refine zG (_::_::_::_::C) rfl (TO.eff0 rfl rfl (Eff.store_row (p := 0) (cv := [_]) (cells' := [_]) rfl rfl rfl rfl rfl rfl rfl rfl aG (by decide) rfl) ?_);rintro _ rfl;refine zG (_::_::_::_::C) rfl (zA R4 (zN (zS (zU rfl (zM R4 ?_)))));obtain ⟨c21, hc21⟩ := zY (¬ y16_3 = 0);refine zV R3 (Val.neq hc21 rfl rfl) (zN ?_);obtain ⟨rfl, hc21, h⟩ | ⟨rfl, hc21, h⟩ := zI hc21 h
  ·refine zC rfl (zU rfl (zM R4 (zA R4 (zA R4 (zN (T.nilown (u := encI.u) (zR ?_)))))));cases h;exact ⟨rfl, _, rfl, ⟨nilS, rfl, (pk [0,98,98,98,98] rfl)⟩⟩
  refine zD rfl (zK ?_)
  show T _ _ _ _ _ _;apply T.joinA (r := r) (W := AV) (fun j w => ⟨[], [(4, w)], ownL true w encI j :: .row b7 1 [iv (y16_2)] :: .row b6 3 [qF, qE, qG] :: C⟩) h
  ·intro j h;refine zU rfl (zF 0 R6 (zF 1 R6 (zL 1 R3 R6 (zV R3 (Val.len_l qT M4 rfl rfl) (zM R4 (zN (zB (T.nilown (u := encI.u) ?_))))))))
   show T _ _ _ _ _ _;apply T.iter (r := j) (W := AV) (fun j w => ⟨[], [(4, w), (6, .ptr b6 0 3), (7, .ptr b7 0 1), (26, iv ((qC.length : Int))), (27, iv (j.1))], ownL true w encI j.2 :: .row b7 1 [iv (y16_2)] :: .row b6 3 [qF, qE, qG] :: C⟩) (w0 := nilS) h
   ·exact (sb (pk [0,0,0,98,98] rfl))
   rintro ⟨x27, l⟩ v6 a h;unfold P_s9_Fits_L1 at h;dsimp only at h;dsimp only;refine zU rfl ?_;obtain ⟨c28, hc28⟩ := zY (x27 < (qC.length : Int));refine zV R3 (Val.lss hc28 rfl rfl) (zN (zS ?_));obtain ⟨rfl, hc28, h⟩ | ⟨rfl, hc28, h⟩ := zI hc28 h
   ·refine zC rfl (zK ?_)
    show T _ _ _ _ _ _;apply T.joinA (r := a) (W := AV) (fun j w => ⟨[], [(4, w), (6, .ptr b6 0 3), (7, .ptr b7 0 1), (26, iv ((qC.length : Int))), (27, iv (x27))], ownL true w encI j :: .row b7 1 [iv (y16_2)] :: .row b6 3 [qF, qE, qG] :: C⟩) h
    ·intro j h;refine zB (zU rfl (zM R4 (zJ 1 [_] R7 (fun b8=>TO.eff0 rfl rfl (Eff.store_row (p := 0) (cv := [_]) (cells' := [_]) rfl rfl rfl rfl rfl rfl rfl rfl aG (by decide) rfl) ?_))));rintro _ rfl;refine zG (_::_::_::_::C) rfl (zN (zU rfl (zV R3 (vW 3 [_,_,_] R5 R4) (zV R3 (Val.makeFunc rfl rfl) ?_))));obtain ⟨⟨m32, l32⟩, hr32, h⟩ := andx_some h;dsimp only at h
     have hl32 := arrange_len hr32;refine TO.callT (first := []) (cap := []) (vs := [.agg [qF, qE, qG], .func 98 [] [.ptr b7 0 1, .ptr b8 0 1, .ptr b6 0 3]]) rfl rfl rfl rfl rfl rfl (orcN rfl) (tf_arrange (F := (fun i_ n_ => P_s9_Fits1 i_ n_ y16_2 x27 qD qC qB)) (r := (m32, l32)) (Rdl.mono qT M4) (Rdl.mono qU M4) rfl (orcN rfl) (fun hs_ i_ n_ r_ hC_ hr_ => tf_s9_Fits1 (C := hs_) aD (hC_ _ (List.mem_of_getElem? (i := 2) rfl)) (hC_ _ (List.mem_of_getElem? (i := 0) rfl)) (Rdl.mono (Rdl.mono qV M4) hC_) (Rdl.mono (Rdl.mono qT M4) hC_) (Rdl.mono (Rdl.mono qU M4) hC_) (hC_ _ (List.mem_of_getElem? (i := 3) rfl)) hr_) hr32) ?_;rintro _;refine zG (_::_::_::_::C) rfl (TO.alloc (k := 12) (cells := restC 0 (List.replicate 11 0)) rfl rfl rfl rfl rfl rfl rfl (fun b9=>TO.eff0 rfl rfl (Eff.store_rest (p := 0) (k := 11) (l' := l32) (n' := m32) rfl (restC_len List.length_replicate) hl32 rfl rfl rfl) ?_));rintro _ rfl;refine zG (_::_::_::_::_::C) rfl (zN (zU rfl (TO.allocA (en := encI) 0 11 rfl rfl rfl rfl (by kernel_rfl) rfl rfl (fun b10=>zN ?_))))
     show T _ _ _ _ _ _;apply T.joinA (r := j) (W := Unit) (fun j w => ⟨[], [(4, v6), (6, .ptr b6 0 3), (7, .ptr b7 0 1), (8, .ptr b8 0 1), (9, .ptr b9 0 12), (10, .ptr b10 0 11), (26, iv ((qC.length : Int))), (27, iv (x27))], arrL b10 encI j :: .row b9 1 (restC m32 l32) :: .row b8 1 [iv (x27)] :: ownL true v6 encI l :: .row b7 1 [iv (y16_2)] :: .row b6 3 [qF, qE, qG] :: C⟩) h
     ·intro j h;refine zU rfl (zF 0 R6 (zF 2 R6 (zL 5 R3 R6 (zV R3 (Val.len_l qU M6 rfl rfl) (zM R4 (zN (zB ?_)))))))
      show T _ _ _ _ _ _;apply T.iter (r := j) (W := Unit) (fun j w => ⟨[], [(4, v6), (6, .ptr b6 0 3), (7, .ptr b7 0 1), (8, .ptr b8 0 1), (9, .ptr b9 0 12), (10, .ptr b10 0 11), (26, iv ((qC.length : Int))), (27, iv (x27)), (35, qG), (36, iv ((qB.length : Int))), (37, iv (j.1))], arrL b10 encI j.2 :: .row b9 1 (restC m32 l32) :: .row b8 1 [iv (x27)] :: ownL true v6 encI l :: .row b7 1 [iv (y16_2)] :: .row b6 3 [qF, qE, qG] :: C⟩) (w0 := ()) h
      ·exact (sb .refl)
      rintro ⟨x37, own⟩ _ a h;unfold P_s9_Fits_L2 at h;dsimp only at h;dsimp only;refine zU rfl ?_;obtain ⟨c38, hc38⟩ := zY (x37 < (qB.length : Int));refine zV R3 (Val.lss hc38 rfl rfl) (zN (zS ?_));obtain ⟨rfl, hc38, h⟩ | ⟨rfl, hc38, h⟩ := zI hc38 h
      ·refine zC rfl (zK (zS (zB (zU rfl (zM R4 ?_)))));obtain ⟨a40, hia40, ea40, h⟩ := el_some h;refine TO.fact (rdl_at qU M6 hia40 ea40) (fun hp=>?_);obtain ⟨pa40, hpa40, hva40⟩ := hp;refine zV R3 (hva40 ⟨rfl, rfl⟩ rfl rfl) (zV R3 (Val.load_es (c := [_, _, _, _, _, _, _]) hpa40 M6 ⟨⟨_, rfl, rfl⟩, rfl, by decide⟩ rfl rfl rfl) (zJ 7 [_,_,_,_,_,_,_] R7 (fun b12=>zA R4 (TO.eff0 rfl rfl (Eff.store_row (p := 0) (cv := [_, _, _, _, _, _, _]) (cells' := [_, _, _, _, _, _, _]) rfl rfl rfl rfl rfl rfl rfl rfl aG (by decide) rfl) ?_))));rintro _ rfl;refine zG (_::_::_::_::_::_::_::C) rfl (zN (zT rfl (zM R4 (zF 6 R6 (zL 0 R3 R6 ?_)))));obtain ⟨hk45, h⟩ := chk_some h;obtain ⟨a45, hia45, ea45, h⟩ := el_some h;refine zV R3 (Val.iaddr_array (m := 11) rfl rfl rfl rfl aO) (TO.eff0 rfl rfl (Eff.store_arr (en := encI) (p := 1) (a := a45) (a' := a40.shelf) (j := 0) (cv := [_]) rfl hk45 ea45 rfl rfl (by decide) rfl rfl rfl rfl aG rfl) ?_);rintro _ rfl;refine zG (_::_::_::_::_::_::_::C) rfl (zN (zT rfl ?_));obtain ⟨hk46, h⟩ := chk_some h;refine zV R3 (Val.add rfl rfl hk46) (zM R4 (zN ?_));cases h;exact ⟨rfl, (), (sb (pk [1,1,1,1,1,1,98] rfl))⟩
      refine zD rfl (zE ?_);cases h;exact ⟨ex_ne, ⟨rfl, (), (sb .refl)⟩⟩
     ·rintro own _ h;refine zU rfl (zL 4 R3 R6 (zL 2 R3 R6 ?_));obtain ⟨hk49, h⟩ := chk_some h;obtain ⟨a49, hia49, ea49, h⟩ := el_some h;refine zV R3 (Val.iaddr_array (m := 11) rfl rfl rfl rfl aO) (TO.eff0 rfl rfl (Eff.store_arr (en := encI) (p := 0) (a := a49) (a' := x27) (j := 0) (cv := [_]) rfl hk49 ea49 rfl rfl (by decide) rfl rfl rfl rfl aG rfl) ?_);rintro _ rfl;refine zG (_::_::_::_::_::_::C) rfl (zN ?_)
      show T _ _ _ _ _ _;apply T.joinA (r := j) (W := Unit) (fun j w => ⟨[], [(4, v6), (6, .ptr b6 0 3), (7, .ptr b7 0 1), (8, .ptr b8 0 1), (26, iv ((qC.length : Int))), (27, iv (x27)), (58, bv j)], arrL b10 encI (List.set own y16_2.toNat x27) :: .row b9 1 (restC m32 l32) :: .row b8 1 [iv (x27)] :: ownL true v6 encI l :: .row b7 1 [iv (y16_2)] :: .row b6 3 [qF, qE, qG] :: C⟩) h
      ·intro j h;refine zT rfl (zF 0 R6 (zV R3 (Val.load_rest0 (p := 1) (k := 11) rfl hl32 ⟨_, rfl, rfl⟩ rfl) ?_));obtain ⟨c52, hc52⟩ := zY (m32 = 0);refine zV R3 (Val.eql hc52 rfl rfl) (zM R4 ?_);obtain ⟨rfl, hc52, h⟩ | ⟨rfl, hc52, h⟩ := zI hc52 h
       ·refine zF 1 R6 (zV R3 (Val.load_restA (p := 1) (k := 11) rfl hl32 ⟨⟨_, rfl, rfl⟩, rfl, by decide⟩ rfl) ?_);obtain ⟨hk56, h⟩ := chk_some h;refine zV R3 (Val.load_vec (p := 0) (k := 11) rfl hk56 ⟨⟨_, rfl, rfl⟩, rfl, by decide⟩ rfl) ?_;obtain ⟨c57, hc57⟩ := zY (l32 = (List.set own y16_2.toNat x27));refine zV R3 (Val.eql_vec hc57 vec_ty136 hl32 hk56 rfl rfl) (zP R6 (zN ?_));subst hc57;cases h;exact ⟨rfl, (), (sb .refl)⟩
       refine zO R3 (zO R3 (zO R3 (zO R3 (zP R6 (zN ?_)))));cases h;exact ⟨rfl, (), (sb .refl)⟩
      ·rintro x58 _ h;obtain ⟨rfl, h⟩ | ⟨rfl, h⟩ := zZ h
       ·refine zC rfl (zT rfl (zM R4 (zL 2 R3 R6 (TO.build1 (en := encI) (a := x27) rfl rfl rfl ⟨rfl, rfl⟩ ⟨_, rfl, rfl⟩ (by decide) (by decide) rfl rfl (fun v61=>?_)))));obtain ⟨hk62, h⟩ := chk_some h;refine TO.eff rfl rfl rfl (Eff.append_own (b := 8) (en := encI) (l := l) (l2 := [x27]) (p := 4) (q := 0) ⟨rfl, rfl, rfl, ⟨_, rfl, rfl⟩, by decide, by decide⟩ rfl rfl rfl rfl rfl rfl (flat_ones _) (by decide) hk62) ?_;rintro v62 _ rfl;refine zG (_::_::_::_::_::_::_::C) rfl (zA R4 (zN ?_));cases h;exact ⟨rfl, v62, (sb (pk [4,4,4,98,98,98,98] rfl))⟩
       refine zD rfl (zK ?_);cases h;exact ⟨rfl, v6, (sb (pk [3,3,3,98,98,98] rfl))⟩
    ·rintro l_2 v6_2 h;refine zT rfl ?_;obtain ⟨hk63, h⟩ := chk_some h;refine zV R3 (Val.add rfl rfl hk63) (zM R4 (zN ?_));cases h;exact ⟨rfl, v6_2, (sb .refl)⟩
   refine zD rfl (zE ?_);cases h;exact ⟨ex_ne, ⟨rfl, v6, (sb .refl)⟩⟩
  ·rintro l v6 h;refine zU rfl (zM R4 (zA R4 (zA R4 (zN (zR ?_)))));cases h;exact ⟨rfl, _, rfl, ⟨v6, rfl, (pk [0,98,98] rfl)⟩⟩
 | inr y16 =>
  obtain ⟨y16_2, y16_3, y16_4⟩ := y16;dsimp only at h;refine TO.callT (first := []) (cap := []) (vs := [.agg [qF, qE, qG], .agg [iv (qL), iv (qM), sv qN, iv (qJ), iv (qI), iv (qR), iv (qS)]]) rfl rfl rfl rfl rfl rfl (orcN rfl) (tf_s9_enter aD qAb qAc qZ hr16) ?_;rintro w16;refine zG (_::_::_::C) rfl (zM R4 (zX R5 (zX R5 (zX R5 (zJ 3 [_,_,_] R7 (fun b6=>zJ 1 [_] R7 (fun b7=>TO.fact (rdl_cellS qV M5) (fun qX=>TO.fact (rdl_cellS qT M5) (fun qY=>TO.fact (own_cellS (p := 2) rfl) (fun hot12=>TO.eff0 rfl rfl (Eff.store_row (p := 1) (cv := [_, _, _]) (cells' := [_, _, _]) rfl rfl rfl rfl rfl rfl rfl rfl (by first | rfl | (simp [GS.one, qX.2, qY.2, hot12.2]; done) | (simp [GS.one, qX.2, qY.2, hot12.2]; (repeat' apply And.intro) <;> rfl)) (by decide) rfl) ?_))))))))));rintro _ rfl;refine zG (_::_::_::_::_::C) rfl (TO.eff0 rfl rfl (Eff.store_row (p := 0) (cv := [_]) (cells' := [_]) rfl rfl rfl rfl rfl rfl rfl rfl aG (by decide) rfl) ?_);rintro _ rfl;refine zG (_::_::_::_::_::C) rfl (zA R4 (zN (zS (zU rfl (zM R4 ?_)))));obtain ⟨c21, hc21⟩ := zY (¬ y16_4 = 0);refine zV R3 (Val.neq hc21 rfl rfl) (zN ?_);obtain ⟨rfl, hc21, h⟩ | ⟨rfl, hc21, h⟩ := zI hc21 h
  ·refine zC rfl (zU rfl (zM R4 (zA R4 (zA R4 (zN (T.nilown (u := encI.u) (zR ?_)))))));cases h;exact ⟨rfl, _, rfl, ⟨nilS, rfl, (pk [0,98,98,98,98,98] rfl)⟩⟩
  refine zD rfl (zK ?_)
  show T _ _ _ _ _ _;apply T.joinA (r := r) (W := AV) (fun j w => ⟨[], [(4, w)], ownL true w encI j :: .row b7 1 [iv (y16_3)] :: .row b6 3 [qF, qE, w16] :: ownL false w16 qK y16_2 :: C⟩) h
  ·intro j h;refine zU rfl (zF 0 R6 (zF 1 R6 (zL 1 R3 R6 (zV R3 (Val.len_l qT M5 rfl rfl) (zM R4 (zN (zB (T.nilown (u := encI.u) ?_))))))))
   show T _ _ _ _ _ _;apply T.iter (r := j) (W := AV) (fun j w => ⟨[], [(4, w), (6, .ptr b6 0 3), (7, .ptr b7 0 1), (26, iv ((qC.length : Int))), (27, iv (j.1))], ownL true w encI j.2 :: .row b7 1 [iv (y16_3)] :: .row b6 3 [qF, qE, w16] :: ownL false w16 qK y16_2 :: C⟩) (w0 := nilS) h
   ·exact (sb (pk [0,0,0,0,98,98] rfl))
   rintro ⟨x27, l⟩ v16 a h;unfold P_s9_Fits_L3 at h;dsimp only at h;dsimp only;refine zU rfl ?_;obtain ⟨c28, hc28⟩ := zY (x27 < (qC.length : Int));refine zV R3 (Val.lss hc28 rfl rfl) (zN (zS ?_));obtain ⟨rfl, hc28, h⟩ | ⟨rfl, hc28, h⟩ := zI hc28 h
   ·refine zC rfl (zK ?_)
    show T _ _ _ _ _ _;apply T.joinA (r := a) (W := AV) (fun j w => ⟨[], [(4, w), (6, .ptr b6 0 3), (7, .ptr b7 0 1), (26, iv ((qC.length : Int))), (27, iv (x27))], ownL true w encI j :: .row b7 1 [iv (y16_3)] :: .row b6 3 [qF, qE, w16] :: ownL false w16 qK y16_2 :: C⟩) h
    ·intro j h;refine zB (zU rfl (zM R4 (zJ 1 [_] R7 (fun b8=>TO.eff0 rfl rfl (Eff.store_row (p := 0) (cv := [_]) (cells' := [_]) rfl rfl rfl rfl rfl rfl rfl rfl aG (by decide) rfl) ?_))));rintro _ rfl;refine zG (_::_::_::_::_::C) rfl (zN (zU rfl (zV R3 (vW 3 [_,_,_] R5 R4) (zV R3 (Val.makeFunc rfl rfl) ?_))));obtain ⟨⟨m32, l32⟩, hr32, h⟩ := andx_some h;dsimp only at h
     have hl32 := arrange_len hr32;refine TO.callT (first := []) (cap := []) (vs := [.agg [qF, qE, w16], .func 98 [] [.ptr b7 0 1, .ptr b8 0 1, .ptr b6 0 3]]) rfl rfl rfl rfl rfl rfl (orcN rfl) (tf_arrange (F := (fun i_ n_ => P_s9_Fits1 i_ n_ y16_3 x27 qD qC y16_2)) (r := (m32, l32)) (Rdl.mono qT M5) (Rdl.mono (Rdl.own (C := .row b8 1 [iv (x27)] :: ownL true v16 encI l :: .row b7 1 [iv (y16_3)] :: .row b6 3 [qF, qE, w16] :: ownL false w16 qK y16_2 :: C) (p := 4) rfl) mem0) rfl (orcN rfl) (fun hs_ i_ n_ r_ hC_ hr_ => tf_s9_Fits1 (C := hs_) aD (hC_ _ (List.mem_of_getElem? (i := 2) rfl)) (hC_ _ (List.mem_of_getElem? (i := 0) rfl)) (Rdl.mono (Rdl.mono qV M5) hC_) (Rdl.mono (Rdl.mono qT M5) hC_) (Rdl.mono (Rdl.mono (Rdl.own (C := .row b8 1 [iv (x27)] :: ownL true v16 encI l :: .row b7 1 [iv (y16_3)] :: .row b6 3 [qF, qE, w16] :: ownL false w16 qK y16_2 :: C) (p := 4) rfl) mem0) hC_) (hC_ _ (List.mem_of_getElem? (i := 3) rfl)) hr_) hr32) ?_;rintro _;refine zG (_::_::_::_::_::C) rfl (TO.alloc (k := 12) (cells := restC 0 (List.replicate 11 0)) rfl rfl rfl rfl rfl rfl rfl (fun b9=>TO.eff0 rfl rfl (Eff.store_rest (p := 0) (k := 11) (l' := l32) (n' := m32) rfl (restC_len List.length_replicate) hl32 rfl rfl rfl) ?_));rintro _ rfl;refine zG (_::_::_::_::_::_::C) rfl (zN (zU rfl (TO.allocA (en := encI) 0 11 rfl rfl rfl rfl (by kernel_rfl) rfl rfl (fun b10=>zN ?_))))
     show T _ _ _ _ _ _;apply T.joinA (r := j) (W := Unit) (fun j w => ⟨[], [(4, v16), (6, .ptr b6 0 3), (7, .ptr b7 0 1), (8, .ptr b8 0 1), (9, .ptr b9 0 12), (10, .ptr b10 0 11), (26, iv ((qC.length : Int))), (27, iv (x27))], arrL b10 encI j :: .row b9 1 (restC m32 l32) :: .row b8 1 [iv (x27)] :: ownL true v16 encI l :: .row b7 1 [iv (y16_3)] :: .row b6 3 [qF, qE, w16] :: ownL false w16 qK y16_2 :: C⟩) h
     ·intro j h;refine zU rfl (zF 0 R6 (zF 2 R6 (zL 5 R3 R6 (zV R3 (Val.len_own (p := 6) rfl rfl rfl) (zM R4 (zN (zB ?_)))))))
      show T _ _ _ _ _ _;apply T.iter (r := j) (W := Unit) (fun j w => ⟨[], [(4, v16), (6, .ptr b6 0 3), (7, .ptr b7 0 1), (8, .ptr b8 0 1), (9, .ptr b9 0 12), (10, .ptr b10 0 11), (26, iv ((qC.length : Int))), (27, iv (x27)), (35, w16), (36, iv ((y16_2.length : Int))), (37, iv (j.1))], arrL b10 encI j.2 :: .row b9 1 (restC m32 l32) :: .row b8 1 [iv (x27)] :: ownL true v16 encI l :: .row b7 1 [iv (y16_3)] :: .row b6 3 [qF, qE, w16] :: ownL false w16 qK y16_2 :: C⟩) (w0 := ()) h
      ·exact (sb .refl)
      rintro ⟨x37, own⟩ _ a h;unfold P_s9_Fits_L4 at h;dsimp only at h;dsimp only;refine zU rfl ?_;obtain ⟨c38, hc38⟩ := zY (x37 < (y16_2.length : Int));refine zV R3 (Val.lss hc38 rfl rfl) (zN (zS ?_));obtain ⟨rfl, hc38, h⟩ | ⟨rfl, hc38, h⟩ := zI hc38 h
      ·refine zC rfl (zK (zS (zB (zU rfl (zM R4 ?_)))));obtain ⟨a40, hia40, ea40, h⟩ := el_some h;refine TO.fact (own_at (en := qK) (p := 6) rfl hia40) (fun hp=>?_);obtain ⟨ida40, ata40⟩ := hp;refine zV R3 (Val.iaddr_at (en := qK) ata40 ⟨rfl, rfl⟩ rfl rfl hia40) (zV R3 (Val.load_ownP (en := qK) (p := 6) (j := 0) (c := [_, _, _, _, _, _, _]) rfl ata40 ⟨⟨_, rfl, rfl⟩, rfl, by decide⟩ rfl ea40 rfl rfl) (zJ 7 [_,_,_,_,_,_,_] R7 (fun b12=>zA R4 (TO.eff0 rfl rfl (Eff.store_row (p := 0) (cv := [_, _, _, _, _, _, _]) (cells' := [_, _, _, _, _, _, _]) rfl rfl rfl rfl rfl rfl rfl rfl aG (by decide) rfl) ?_))));rintro _ rfl;refine zG (_::_::_::_::_::_::_::_::C) rfl (zN (zT rfl (zM R4 (zF 6 R6 (zL 0 R3 R6 ?_)))));obtain ⟨hk45, h⟩ := chk_some h;obtain ⟨a45, hia45, ea45, h⟩ := el_some h;refine zV R3 (Val.iaddr_array (m := 11) rfl rfl rfl rfl aO) (TO.eff0 rfl rfl (Eff.store_arr (en := encI) (p := 1) (a := a45) (a' := a40.shelf) (j := 0) (cv := [_]) rfl hk45 ea45 rfl rfl (by decide) rfl rfl rfl rfl aG rfl) ?_);rintro _ rfl;refine zG (_::_::_::_::_::_::_::_::C) rfl (zN (zT rfl ?_));obtain ⟨hk46, h⟩ := chk_some h;refine zV R3 (Val.add rfl rfl hk46) (zM R4 (zN ?_));cases h;exact ⟨rfl, (), (sb (pk [1,1,1,1,1,1,1,98] rfl))⟩
      refine zD rfl (zE ?_);cases h;exact ⟨ex_ne, ⟨rfl, (), (sb .refl)⟩⟩
     ·rintro own _ h;refine zU rfl (zL 4 R3 R6 (zL 2 R3 R6 ?_));obtain ⟨hk49, h⟩ := chk_some h;obtain ⟨a49, hia49, ea49, h⟩ := el_some h;refine zV R3 (Val.iaddr_array (m := 11) rfl rfl rfl rfl aO) (TO.eff0 rfl rfl (Eff.store_arr (en := encI) (p := 0) (a := a49) (a' := x27) (j := 0) (cv := [_]) rfl hk49 ea49 rfl rfl (by decide) rfl rfl rfl rfl aG rfl) ?_);rintro _ rfl;refine zG (_::_::_::_::_::_::_::C) rfl (zN ?_)
      show T _ _ _ _ _ _;apply T.joinA (r := j) (W := Unit) (fun j w => ⟨[], [(4, v16), (6, .ptr b6 0 3), (7, .ptr b7 0 1), (8, .ptr b8 0 1), (26, iv ((qC.length : Int))), (27, iv (x27)), (58, bv j)], arrL b10 encI (List.set own y16_3.toNat x27) :: .row b9 1 (restC m32 l32) :: .row b8 1 [iv (x27)] :: ownL true v16 encI l :: .row b7 1 [iv (y16_3)] :: .row b6 3 [qF, qE, w16] :: ownL false w16 qK y16_2 :: C⟩) h
      ·intro j h;refine zT rfl (zF 0 R6 (zV R3 (Val.load_rest0 (p := 1) (k := 11) rfl hl32 ⟨_, rfl, rfl⟩ rfl) ?_));obtain ⟨c52, hc52⟩ := zY (m32 = 0);refine zV R3 (Val.eql hc52 rfl rfl) (zM R4 ?_);obtain ⟨rfl, hc52, h⟩ | ⟨rfl, hc52, h⟩ := zI hc52 h
       ·refine zF 1 R6 (zV R3 (Val.load_restA (p := 1) (k := 11) rfl hl32 ⟨⟨_, rfl, rfl⟩, rfl, by decide⟩ rfl) ?_);obtain ⟨hk56, h⟩ := chk_some h;refine zV R3 (Val.load_vec (p := 0) (k := 11) rfl hk56 ⟨⟨_, rfl, rfl⟩, rfl, by decide⟩ rfl) ?_;obtain ⟨c57, hc57⟩ := zY (l32 = (List.set own y16_3.toNat x27));refine zV R3 (Val.eql_vec hc57 vec_ty136 hl32 hk56 rfl rfl) (zP R6 (zN ?_));subst hc57;cases h;exact ⟨rfl, (), (sb .refl)⟩
       refine zO R3 (zO R3 (zO R3 (zO R3 (zP R6 (zN ?_)))));cases h;exact ⟨rfl, (), (sb .refl)⟩
      ·rintro x58 _ h;obtain ⟨rfl, h⟩ | ⟨rfl, h⟩ := zZ h
       ·refine zC rfl (zT rfl (zM R4 (zL 2 R3 R6 (TO.build1 (en := encI) (a := x27) rfl rfl rfl ⟨rfl, rfl⟩ ⟨_, rfl, rfl⟩ (by decide) (by decide) rfl rfl (fun v61=>?_)))));obtain ⟨hk62, h⟩ := chk_some h;refine TO.eff rfl rfl rfl (Eff.append_own (b := 8) (en := encI) (l := l) (l2 := [x27]) (p := 4) (q := 0) ⟨rfl, rfl, rfl, ⟨_, rfl, rfl⟩, by decide, by decide⟩ rfl rfl rfl rfl rfl rfl (flat_ones _) (by decide) hk62) ?_;rintro v62 _ rfl;refine zG (_::_::_::_::_::_::_::_::C) rfl (zA R4 (zN ?_));cases h;exact ⟨rfl, v62, (sb (pk [4,4,4,4,98,98,98,98] rfl))⟩
       refine zD rfl (zK ?_);cases h;exact ⟨rfl, v16, (sb (pk [3,3,3,3,98,98,98] rfl))⟩
    ·rintro l_2 v16_2 h;refine zT rfl ?_;obtain ⟨hk63, h⟩ := chk_some h;refine zV R3 (Val.add rfl rfl hk63) (zM R4 (zN ?_));cases h;exact ⟨rfl, v16_2, (sb .refl)⟩
   refine zD rfl (zE ?_);cases h;exact ⟨ex_ne, ⟨rfl, v16, (sb .refl)⟩⟩
  ·rintro l v16 h;refine zU rfl (zM R4 (zA R4 (zA R4 (zN (zR ?_)))));cases h;exact ⟨rfl, _, rfl, ⟨v16, rfl, (pk [0,98,98,98] rfl)⟩⟩
theorem w_s9_Fits (qD : GS encStr) (qC : GS qW) (qB : GS qK) (qL : Int) (qM : Int) (qN : Str) (qJ : Int) (qI : Int) (qR : Int) (qS : Int) (r : (List Int) × Int) (h : P_s9_Fits qD.l qC.l qB.l qL qM qN qJ qI qR qS = some r) : Comes (EL 1) 30 [.agg [qD.v, qC.v, qB.v], .agg [iv (qL), iv (qM), sv qN, iv (qJ), iv (qI), iv (qR), iv (qS)]] (.tuple [(GSo true encI r.1).v, iv r.2]) :=
 TF.run (tf_s9_Fits (Nat.le_refl _) (RdT.gs qD) (RdT.gs qC) (RdT.gs qB) h) fun w => (.tuple (.cons (.ownL (en := encI) (p := 0) rfl (.lits encI_lits)) (.cons .lit .nil)))
set_option maxRecDepth 10000 in
theorem tf_s9_Put {k : Nat} (hk : 1 ≤ k) {C : List Thing} {qF : AV} {qD : List Str} {qE : AV} {qC : List qH} {qG : AV} {qB : List qA} {qL : Int} {qM : Int} {qN : Str} {qJ : Int} {qI : Int} {qR : Int} {qS : Int} (qAb : RdT encStr qF qD) (qAc : RdT qW qE qC) (qZ : RdT qK qG qB) {r : Int × Int × (List Int) × Bool × Int} (h : P_s9_Put qD qC qB qL qM qN qJ qI qR qS = some r) :
  TF (EL k) 32 [.agg [qF, qE, qG], .agg [iv (qL), iv (qM), sv qN, iv (qJ), iv (qI), iv (qR), iv (qS)]] C (RepF (fun (w : AV) => .tuple [iv r.1, iv r.2.1, w, iv r.2.2.2.2]) (fun (w : AV) => ownL r.2.2.2.1 w encI r.2.2.1 :: C)) := by
 unfold P_s9_Put at h
 have qV : Rdl C encStr qF qD := RdT.rdl qAb
 have qT : Rdl C qW qE qC := RdT.rdl qAc
 have qU : Rdl C qK qG qB := RdT.rdl qZ;refine TF.enterG (fn := Go.Proofs.Tryz.f32) rfl rfl rfl rfl rfl (zU rfl (zQ 3 [_,_,_] R7 (fun b2=>zQ 7 [_,_,_,_,_,_,_] R7 (fun b3=>zJ 1 [_] R7 (fun b4=>zA R4 (zA R4 (zA R4 (zN (zU rfl (zV R3 (vW 2 [_,_,_] R5 R4) (zV R3 (vW 1 [_,_,_,_,_,_,_] R5 R4) ?_)))))))))));obtain ⟨y13, hr13, h⟩ := andx_some h;cases y13 with
 | inl y13 =>
  obtain ⟨y13_2, y13_3⟩ := y13;dsimp only at h;refine TO.callT (first := []) (cap := []) (vs := [.agg [qF, qE, qG], .agg [iv (qL), iv (qM), sv qN, iv (qJ), iv (qI), iv (qR), iv (qS)]]) rfl rfl rfl rfl rfl rfl (orcN rfl) (tf_s9_enter aD qAb qAc qZ hr13) ?_;rintro _;refine zG (_::_::_::C) rfl (zM R4 (zX R5 (zX R5 (zX R5 (zJ 3 [_,_,_] R7 (fun b8=>TO.fact (rdl_cellS qV M4) (fun qX=>TO.fact (rdl_cellS qT M4) (fun qY=>TO.fact (rdl_cellS qU M4) (fun qAa=>TO.eff0 rfl rfl (Eff.store_row (p := 0) (cv := [_, _, _]) (cells' := [_, _, _]) rfl rfl rfl rfl rfl rfl rfl rfl (by first | rfl | (simp [GS.one, qX.2, qY.2, qAa.2]; done) | (simp [GS.one, qX.2, qY.2, qAa.2]; (repeat' apply And.intro) <;> rfl)) (by decide) rfl) ?_)))))))));rintro _ rfl;refine zG (_::_::_::_::C) rfl (TO.eff0 rfl rfl (Eff.store_row (p := 1) (cv := [_]) (cells' := [_]) rfl rfl rfl rfl rfl rfl rfl rfl aG (by decide) rfl) ?_);rintro _ rfl;refine zG (_::_::_::_::C) rfl (zA R4 (zN (zS (zB (zU rfl (zM R4 ?_))))));obtain ⟨c19, hc19⟩ := zY (¬ y13_3 = 0);refine zV R3 (Val.neq hc19 rfl rfl) (zA R4 (zN ?_));obtain ⟨rfl, hc19, h⟩ | ⟨rfl, hc19, h⟩ := zI hc19 h
  ·refine zC rfl (zU rfl (zM R4 (TO.eff0 rfl rfl (Eff.store_row (p := 1) (cv := [_]) (cells' := [_]) rfl rfl rfl rfl rfl rfl rfl rfl aG (by decide) rfl) ?_)));rintro _ rfl;refine zG (_::_::_::_::C) rfl (zA R4 (zA R4 (zA R4 (zN (T.nilown (u := encI.u) (zR ?_))))));cases h;exact ⟨rfl, _, rfl, [_, _, _, _], ⟨⟨_, rfl, LoadR.row (p := 2) rfl ⟨_, rfl, rfl⟩ rfl rfl⟩, ⟨rfl, ⟨rfl, ⟨rfl, trivial⟩⟩⟩⟩, ⟨nilS, rfl, (pk [0,98,98,98,98] rfl)⟩⟩
  refine zD rfl (zU rfl (zF 2 R6 (zL 3 R3 R6 (zV R3 (Val.len_l qU M4 rfl rfl) ?_))));obtain ⟨c25, hc25⟩ := zY ((qB.length : Int) = 10);refine zV R3 (Val.eql hc25 rfl rfl) (zA R4 (zN ?_));obtain ⟨rfl, hc25, h⟩ | ⟨rfl, hc25, h⟩ := zI hc25 h
  ·refine zC rfl (zU rfl (TO.eff0 rfl rfl (Eff.store_row (p := 1) (cv := [_]) (cells' := [_]) rfl rfl rfl rfl rfl rfl rfl rfl aG (by decide) rfl) ?_));rintro _ rfl;refine zG (_::_::_::_::C) rfl (zA R4 (zA R4 (zA R4 (zN (T.nilown (u := encI.u) (zR ?_))))));cases h;exact ⟨rfl, _, rfl, [_, _, _, _], ⟨⟨_, rfl, LoadR.row (p := 2) rfl ⟨_, rfl, rfl⟩ rfl rfl⟩, ⟨rfl, ⟨rfl, ⟨rfl, trivial⟩⟩⟩⟩, ⟨nilS, rfl, (pk [0,98,98,98,98] rfl)⟩⟩
  refine zD rfl (zK (zU rfl (zV R3 (vW 0 [_,_,_] R5 R4) (zV R3 (Val.makeFunc rfl rfl) ?_))));obtain ⟨⟨m28, l28⟩, hr28, h⟩ := andx_some h;dsimp only at h
  have hl28 := arrange_len hr28;refine TO.callT (first := []) (cap := []) (vs := [.agg [qF, qE, qG], .func 100 [] [.ptr b4 0 1, .ptr b8 0 3]]) rfl rfl rfl rfl rfl rfl (orcN rfl) (tf_arrange (F := (fun i_ n_ => P_s9_Put1 i_ n_ y13_2 qD qC qB)) (r := (m28, l28)) (Rdl.mono qT M4) (Rdl.mono qU M4) rfl (orcN rfl) (fun hs_ i_ n_ r_ hC_ hr_ => tf_s9_Put1 (C := hs_) aD (hC_ _ (List.mem_of_getElem? (i := 1) rfl)) (Rdl.mono (Rdl.mono qV M4) hC_) (Rdl.mono (Rdl.mono qT M4) hC_) (Rdl.mono (Rdl.mono qU M4) hC_) (hC_ _ (List.mem_of_getElem? (i := 0) rfl)) hr_) hr28) ?_;rintro _;refine zG (_::_::_::_::C) rfl (TO.alloc (k := 12) (cells := restC 0 (List.replicate 11 0)) rfl rfl rfl rfl rfl rfl rfl (fun b9=>TO.eff0 rfl rfl (Eff.store_rest (p := 0) (k := 11) (l' := l28) (n' := m28) rfl (restC_len List.length_replicate) hl28 rfl rfl rfl) ?_));rintro _ rfl;refine zG (_::_::_::_::_::C) rfl (zN (zS (zU rfl (zF 0 R6 (zV R3 (Val.load_rest0 (p := 0) (k := 11) rfl hl28 ⟨_, rfl, rfl⟩ rfl) ?_)))));obtain ⟨c31, hc31⟩ := zY (m28 ≥ 1000);refine zV R3 (Val.geq hc31 rfl rfl) (zN ?_);obtain ⟨rfl, hc31, h⟩ | ⟨rfl, hc31, h⟩ := zI hc31 h
  ·refine zC rfl (zU rfl (TO.eff0 rfl rfl (Eff.store_row (p := 2) (cv := [_]) (cells' := [_]) rfl rfl rfl rfl rfl rfl rfl rfl aG (by decide) rfl) ?_));rintro _ rfl;refine zG (_::_::_::_::_::C) rfl (zA R4 (zA R4 (zA R4 (zN (T.nilown (u := encI.u) (zR ?_))))));cases h;exact ⟨rfl, _, rfl, [_, _, _, _], ⟨⟨_, rfl, LoadR.row (p := 3) rfl ⟨_, rfl, rfl⟩ rfl rfl⟩, ⟨rfl, ⟨rfl, ⟨rfl, trivial⟩⟩⟩⟩, ⟨nilS, rfl, (pk [0,98,98,98,98,98] rfl)⟩⟩
  refine zD rfl (zK (zS (T.drawE (l1 := [0, 1, 2, 3, 4, 5, 6, 7, 8]) (l2 := [9, 10, 11, 12, 13]) (by kernel_rfl) (by kernel_rfl) (yR R4 (vR (p := 2) R6) (yL R4 (Val.faddr_ptr (fo := 0) rfl rfl rfl) (yR R4 (Val.load_rest0 (p := 0) (k := 11) rfl hl28 ⟨_, rfl, rfl⟩ rfl) (yL R4 (Val.faddr_ptr (fo := 1) rfl rfl rfl) (yL R4 (Val.faddr_ptr (fo := 0) rfl rfl rfl) (yL R4 (Val.faddr_ptr (fo := 2) rfl rfl rfl) (yR R4 (vR (p := 1) R6) (yR R4 (Val.len_l qU M5 rfl rfl) ?_)))))))))));obtain ⟨hk40, h⟩ := chk_some h;refine yR R4 (Val.slice_arr (p := 0) (k := 12) (m := 11) rfl (restC_len hl28) rfl rfl rfl rfl rfl rfl hk40) (TD1.over (fun v => sameC_refl v) (all_cons (⟨_, rfl, (Val.slice_arr (p := 0) (k := 12) (m := 11) rfl (restC_len hl28) rfl rfl rfl rfl rfl rfl hk40)⟩) (all_cons (⟨_, rfl, (Val.len_l qU M5 rfl rfl)⟩) (all_cons (⟨_, rfl, (vR (p := 1) R6)⟩) (all_cons (⟨_, rfl, (Val.load_rest0 (p := 0) (k := 11) rfl hl28 ⟨_, rfl, rfl⟩ rfl)⟩) (all_cons (⟨_, rfl, (vR (p := 2) R6)⟩) all_nil))))) (TD2.heavy (fun v => sameC_refl v) rfl (by decide) rfl rfl (OpS.callV rfl rfl rfl rfl (orcN rfl) (RepF.conv (tf_cloneA (p := 0) rfl hl28 hk40))) ?_));rintro v41 hs_ ⟨v41, rfl, he_⟩;subst hs_;refine ⟨(all_cons (.inl (by kernel_rfl)) (all_cons (.inl (by kernel_rfl)) (all_cons (.inl (by kernel_rfl)) (all_cons (.inr ⟨_, rfl, (Val.load_rest0 (p := 1) (k := 11) rfl hl28 ⟨_, rfl, rfl⟩ rfl)⟩) (all_cons (.inr ⟨_, rfl, (vR (p := 3) R6)⟩) all_nil))))), all_nil, ?_⟩;refine yG (_::_::_::_::_::_::C) rfl (TD2.heavy (fun v => sameC_refl v) rfl (by decide) rfl rfl (OpS.eff (Eff.store_row (p := 3) (cv := [_]) (cells' := [_]) rfl rfl rfl rfl rfl rfl rfl rfl aG (by decide) rfl)) ?_);rintro _ _ rfl;refine ⟨(all_cons (.inl (by kernel_rfl)) (all_cons (.inl (by kernel_rfl)) (all_cons (.inl (by kernel_rfl)) (all_cons (.inr ⟨_, rfl, (Val.load_rest0 (p := 1) (k := 11) rfl hl28 ⟨_, rfl, rfl⟩ rfl)⟩) (all_cons (.inl (by kernel_rfl)) all_nil))))), all_nil, ?_⟩;refine yG (_::_::_::_::_::_::C) rfl (yM R4 (Val.assign rfl) (yM R4 (Val.assign rfl) (yM R4 (Val.assign rfl) (TD2.nil (zR ?_)))));cases h;exact ⟨rfl, _, rfl, [_, _, _, _], ⟨⟨_, rfl, LoadR.row (p := 3) rfl ⟨_, rfl, rfl⟩ rfl rfl⟩, ⟨rfl, ⟨rfl, ⟨rfl, trivial⟩⟩⟩⟩, ⟨v41, rfl, (pk [0,98,98,98,98,98] rfl)⟩⟩
 | inr y13 =>
  obtain ⟨y13_2, y13_3, y13_4⟩ := y13;dsimp only at h;refine TO.callT (first := []) (cap := []) (vs := [.agg [qF, qE, qG], .agg [iv (qL), iv (qM), sv qN, iv (qJ), iv (qI), iv (qR), iv (qS)]]) rfl rfl rfl rfl rfl rfl (orcN rfl) (tf_s9_enter aD qAb qAc qZ hr13) ?_;rintro w13;refine zG (_::_::_::_::C) rfl (zM R4 (zX R5 (zX R5 (zX R5 (zJ 3 [_,_,_] R7 (fun b8=>TO.fact (rdl_cellS qV M5) (fun qX=>TO.fact (rdl_cellS qT M5) (fun qY=>TO.fact (own_cellS (p := 1) rfl) (fun hot10=>TO.eff0 rfl rfl (Eff.store_row (p := 0) (cv := [_, _, _]) (cells' := [_, _, _]) rfl rfl rfl rfl rfl rfl rfl rfl (by first | rfl | (simp [GS.one, qX.2, qY.2, hot10.2]; done) | (simp [GS.one, qX.2, qY.2, hot10.2]; (repeat' apply And.intro) <;> rfl)) (by decide) rfl) ?_)))))))));rintro _ rfl;refine zG (_::_::_::_::_::C) rfl (TO.eff0 rfl rfl (Eff.store_row (p := 2) (cv := [_]) (cells' := [_]) rfl rfl rfl rfl rfl rfl rfl rfl aG (by decide) rfl) ?_);rintro _ rfl;refine zG (_::_::_::_::_::C) rfl (zA R4 (zN (zS (zB (zU rfl (zM R4 ?_))))));obtain ⟨c19, hc19⟩ := zY (¬ y13_4 = 0);refine zV R3 (Val.neq hc19 rfl rfl) (zA R4 (zN ?_));obtain ⟨rfl, hc19, h⟩ | ⟨rfl, hc19, h⟩ := zI hc19 h
  ·refine zC rfl (zU rfl (zM R4 (TO.eff0 rfl rfl (Eff.store_row (p := 2) (cv := [_]) (cells' := [_]) rfl rfl rfl rfl rfl rfl rfl rfl aG (by decide) rfl) ?_)));rintro _ rfl;refine zG (_::_::_::_::_::C) rfl (zA R4 (zA R4 (zA R4 (zN (T.nilown (u := encI.u) (zR ?_))))));cases h;exact ⟨rfl, _, rfl, [_, _, _, _], ⟨⟨_, rfl, LoadR.row (p := 3) rfl ⟨_, rfl, rfl⟩ rfl rfl⟩, ⟨rfl, ⟨rfl, ⟨rfl, trivial⟩⟩⟩⟩, ⟨nilS, rfl, (pk [0,98,98,98,98,98] rfl)⟩⟩
  refine zD rfl (zU rfl (zF 2 R6 (zL 4 R3 R6 (zV R3 (Val.len_l qU M5 rfl rfl) ?_))));obtain ⟨c25, hc25⟩ := zY ((qB.length : Int) = 10);refine zV R3 (Val.eql hc25 rfl rfl) (zA R4 (zN ?_));obtain ⟨rfl, hc25, h⟩ | ⟨rfl, hc25, h⟩ := zI hc25 h
  ·refine zC rfl (zU rfl (TO.eff0 rfl rfl (Eff.store_row (p := 2) (cv := [_]) (cells' := [_]) rfl rfl rfl rfl rfl rfl rfl rfl aG (by decide) rfl) ?_));rintro _ rfl;refine zG (_::_::_::_::_::C) rfl (zA R4 (zA R4 (zA R4 (zN (T.nilown (u := encI.u) (zR ?_))))));cases h;exact ⟨rfl, _, rfl, [_, _, _, _], ⟨⟨_, rfl, LoadR.row (p := 3) rfl ⟨_, rfl, rfl⟩ rfl rfl⟩, ⟨rfl, ⟨rfl, ⟨rfl, trivial⟩⟩⟩⟩, ⟨nilS, rfl, (pk [0,98,98,98,98,98] rfl)⟩⟩
  refine zD rfl (zK (zU rfl (zV R3 (vW 0 [_,_,_] R5 R4) (zV R3 (Val.makeFunc rfl rfl) ?_))));obtain ⟨⟨m28, l28⟩, hr28, h⟩ := andx_some h;dsimp only at h
  have hl28 := arrange_len hr28;refine TO.callT (first := []) (cap := []) (vs := [.agg [qF, qE, w13], .func 100 [] [.ptr b4 0 1, .ptr b8 0 3]]) rfl rfl rfl rfl rfl rfl (orcN rfl) (tf_arrange (F := (fun i_ n_ => P_s9_Put1 i_ n_ y13_3 qD qC y13_2)) (r := (m28, l28)) (Rdl.mono qT M5) (Rdl.mono (Rdl.own (C := .row b8 3 [qF, qE, w13] :: ownL false w13 qK y13_2 :: .row b4 1 [iv (y13_3)] :: .row b3 7 [iv (qL), iv (qM), sv qN, iv (qJ), iv (qI), iv (qR), iv (qS)] :: .row b2 3 [qF, qE, qG] :: C) (p := 1) rfl) mem0) rfl (orcN rfl) (fun hs_ i_ n_ r_ hC_ hr_ => tf_s9_Put1 (C := hs_) aD (hC_ _ (List.mem_of_getElem? (i := 2) rfl)) (Rdl.mono (Rdl.mono qV M5) hC_) (Rdl.mono (Rdl.mono qT M5) hC_) (Rdl.mono (Rdl.mono (Rdl.own (C := .row b8 3 [qF, qE, w13] :: ownL false w13 qK y13_2 :: .row b4 1 [iv (y13_3)] :: .row b3 7 [iv (qL), iv (qM), sv qN, iv (qJ), iv (qI), iv (qR), iv (qS)] :: .row b2 3 [qF, qE, qG] :: C) (p := 1) rfl) mem0) hC_) (hC_ _ (List.mem_of_getElem? (i := 0) rfl)) hr_) hr28) ?_;rintro _;refine zG (_::_::_::_::_::C) rfl (TO.alloc (k := 12) (cells := restC 0 (List.replicate 11 0)) rfl rfl rfl rfl rfl rfl rfl (fun b9=>TO.eff0 rfl rfl (Eff.store_rest (p := 0) (k := 11) (l' := l28) (n' := m28) rfl (restC_len List.length_replicate) hl28 rfl rfl rfl) ?_));rintro _ rfl;refine zG (_::_::_::_::_::_::C) rfl (zN (zS (zU rfl (zF 0 R6 (zV R3 (Val.load_rest0 (p := 0) (k := 11) rfl hl28 ⟨_, rfl, rfl⟩ rfl) ?_)))));obtain ⟨c31, hc31⟩ := zY (m28 ≥ 1000);refine zV R3 (Val.geq hc31 rfl rfl) (zN ?_);obtain ⟨rfl, hc31, h⟩ | ⟨rfl, hc31, h⟩ := zI hc31 h
  ·refine zC rfl (zU rfl (TO.eff0 rfl rfl (Eff.store_row (p := 3) (cv := [_]) (cells' := [_]) rfl rfl rfl rfl rfl rfl rfl rfl aG (by decide) rfl) ?_));rintro _ rfl;refine zG (_::_::_::_::_::_::C) rfl (zA R4 (zA R4 (zA R4 (zN (T.nilown (u := encI.u) (zR ?_))))));cases h;exact ⟨rfl, _, rfl, [_, _, _, _], ⟨⟨_, rfl, LoadR.row (p := 4) rfl ⟨_, rfl, rfl⟩ rfl rfl⟩, ⟨rfl, ⟨rfl, ⟨rfl, trivial⟩⟩⟩⟩, ⟨nilS, rfl, (pk [0,98,98,98,98,98,98] rfl)⟩⟩
  refine zD rfl (zK (zS (T.drawE (l1 := [0, 1, 2, 3, 4, 5, 6, 7, 8]) (l2 := [9, 10, 11, 12, 13]) (by kernel_rfl) (by kernel_rfl) (yR R4 (vR (p := 3) R6) (yL R4 (Val.faddr_ptr (fo := 0) rfl rfl rfl) (yR R4 (Val.load_rest0 (p := 0) (k := 11) rfl hl28 ⟨_, rfl, rfl⟩ rfl) (yL R4 (Val.faddr_ptr (fo := 1) rfl rfl rfl) (yL R4 (Val.faddr_ptr (fo := 0) rfl rfl rfl) (yL R4 (Val.faddr_ptr (fo := 2) rfl rfl rfl) (yR R4 (vR (p := 1) R6) (yR R4 (Val.len_own (p := 2) rfl rfl rfl) ?_)))))))))));obtain ⟨hk40, h⟩ := chk_some h;refine yR R4 (Val.slice_arr (p := 0) (k := 12) (m := 11) rfl (restC_len hl28) rfl rfl rfl rfl rfl rfl hk40) (TD1.over (fun v => sameC_refl v) (all_cons (⟨_, rfl, (Val.slice_arr (p := 0) (k := 12) (m := 11) rfl (restC_len hl28) rfl rfl rfl rfl rfl rfl hk40)⟩) (all_cons (⟨_, rfl, (Val.len_own (p := 2) rfl rfl rfl)⟩) (all_cons (⟨_, rfl, (vR (p := 1) R6)⟩) (all_cons (⟨_, rfl, (Val.load_rest0 (p := 0) (k := 11) rfl hl28 ⟨_, rfl, rfl⟩ rfl)⟩) (all_cons (⟨_, rfl, (vR (p := 3) R6)⟩) all_nil))))) (TD2.heavy (fun v => sameC_refl v) rfl (by decide) rfl rfl (OpS.callV rfl rfl rfl rfl (orcN rfl) (RepF.conv (tf_cloneA (p := 0) rfl hl28 hk40))) ?_));rintro v41 hs_ ⟨v41, rfl, he_⟩;subst hs_;refine ⟨(all_cons (.inl (by kernel_rfl)) (all_cons (.inl (by kernel_rfl)) (all_cons (.inl (by kernel_rfl)) (all_cons (.inr ⟨_, rfl, (Val.load_rest0 (p := 1) (k := 11) rfl hl28 ⟨_, rfl, rfl⟩ rfl)⟩) (all_cons (.inr ⟨_, rfl, (vR (p := 4) R6)⟩) all_nil))))), all_nil, ?_⟩;refine yG (_::_::_::_::_::_::_::C) rfl (TD2.heavy (fun v => sameC_refl v) rfl (by decide) rfl rfl (OpS.eff (Eff.store_row (p := 4) (cv := [_]) (cells' := [_]) rfl rfl rfl rfl rfl rfl rfl rfl aG (by decide) rfl)) ?_);rintro _ _ rfl;refine ⟨(all_cons (.inl (by kernel_rfl)) (all_cons (.inl (by kernel_rfl)) (all_cons (.inl (by kernel_rfl)) (all_cons (.inr ⟨_, rfl, (Val.load_rest0 (p := 1) (k := 11) rfl hl28 ⟨_, rfl, rfl⟩ rfl)⟩) (all_cons (.inl (by kernel_rfl)) all_nil))))), all_nil, ?_⟩;refine yG (_::_::_::_::_::_::_::C) rfl (yM R4 (Val.assign rfl) (yM R4 (Val.assign rfl) (yM R4 (Val.assign rfl) (TD2.nil (zR ?_)))));cases h;exact ⟨rfl, _, rfl, [_, _, _, _], ⟨⟨_, rfl, LoadR.row (p := 4) rfl ⟨_, rfl, rfl⟩ rfl rfl⟩, ⟨rfl, ⟨rfl, ⟨rfl, trivial⟩⟩⟩⟩, ⟨v41, rfl, (pk [0,98,98,98,98,98,98] rfl)⟩⟩
theorem w_s9_Put (qD : GS encStr) (qC : GS qW) (qB : GS qK) (qL : Int) (qM : Int) (qN : Str) (qJ : Int) (qI : Int) (qR : Int) (qS : Int) (r : Int × Int × (List Int) × Bool × Int) (h : P_s9_Put qD.l qC.l qB.l qL qM qN qJ qI qR qS = some r) : Comes (EL 1) 32 [.agg [qD.v, qC.v, qB.v], .agg [iv (qL), iv (qM), sv qN, iv (qJ), iv (qI), iv (qR), iv (qS)]] (.tuple [iv r.1, iv r.2.1, (GSo r.2.2.2.1 encI r.2.2.1).v, iv r.2.2.2.2]) :=
 TF.run (tf_s9_Put (Nat.le_refl _) (RdT.gs qD) (RdT.gs qC) (RdT.gs qB) h) fun w => (.tuple (.cons .lit (.cons .lit (.cons (.ownL (en := encI) (p := 0) rfl (.lits encI_lits)) (.cons .lit .nil)))))
end Go.Am.YtiaolgbmbhldgaaGreatDoor
end
section
namespace Go.Am
set_option linter.unusedVariables false
noncomputable def P_law_ShelfPut_L1 (qD : List Str) (qC : List qH) (qB : List qA) (y29 : List Int) (y58 : List qA) (y58_2 : Int) : Int → Option (Stp Int (Ex Unit Bool)) := fun i =>
  if i < (y29.length : Int) then
    seqx (
      andx (P_r9_Own y58) fun y70 =>
        el y29 i fun a75 =>
        el y70 y58_2 fun a77 =>
        andx (
          el y29 i fun a80 =>
          if a80 < 0 then
            some true
          else
            el y29 i fun a86 =>
            if a86 ≥ (qC.length : Int) then
              some true
            else
              if i > 0 then
                el y29 i fun a99 =>
                chk (I64 (i - 1)) (
                  el y29 (i - 1) fun a104 =>
                  if a99 ≤ a104 then
                    some true
                  else
                    andx (P_r9_Arranged qD qC qB y58 (List.set y70 y58_2.toNat a75)) fun y113 =>
                      some (!y113))
              else
                andx (P_r9_Arranged qD qC qB y58 (List.set y70 y58_2.toNat a75)) fun y113 =>
                  some (!y113)) fun x115 =>
          if x115 = true then
            some (Ex.rt (Stp.dn (Ex.rt false)))
          else
            some (Ex.nx ())) fun _ =>
      chk (I64 (i + 1)) (
        some (Stp.ag (i + 1)))
  else
    some (Stp.dn (Ex.nx ()))
noncomputable def P_law_ShelfPut (qD : List Str) (qC : List qH) (qB : List qA) (qL : Int) (qM : Int) (qN : Str) (qJ : Int) (qI : Int) (qR : Int) (qS : Int) (x : List UInt8) : Option Bool :=
  andx (P_s9_Put qD qC qB qL qM qN qJ qI qR qS) fun (y21, y21_2, y21_3, y21_4, y21_5) =>
    andx (P_s9_Fits qD qC qB qL qM qN qJ qI qR qS) fun (y29, y29_2) =>
      andx (P_r9_Further qD qC qB qL qM qN qJ qI qR qS) fun y34 =>
        if ¬ y34 = 0 then
          andx (
            if ¬ y21_5 = 0 then
              if y29_2 = y21_5 then
                chk (I64 ((((GSo y21_4 encI y21_3).l).length : Int) + (y29.length : Int))) (
                  if ((((GSo y21_4 encI y21_3).l).length : Int) + (y29.length : Int)) = 0 then
                    some true
                  else
                    some false)
              else
                some false
            else
              some false) fun x6 =>
            some x6
        else
          andx (P_r9_With qB (⟨qL, qM, qN, qJ, qI, qR, qS⟩ : qA)) fun (y58, y58_2) =>
            if ¬ y29_2 = 0 then
              some false
            else
              seqx (
                iter (P_law_ShelfPut_L1 qD qC qB y29 y58 y58_2) 0) fun _ =>
                if (qB.length : Int) = 10 then
                  andx (
                    if y21_5 = 3 then
                      some true
                    else
                      some false) fun x6 =>
                    some x6
                else
                  andx (P_law9_Rising (y58.length : Int) (qC.length : Int) x) fun y131 =>
                    if ¬ y21_5 = 0 then
                      andx (
                        if y21_5 = 9 then
                          andx (P_r9_Arranged qD qC qB y58 y131) fun y140 =>
                            if y140 = true then
                              some false
                            else
                              if (y29.length : Int) = 0 then
                                some true
                              else
                                some false
                        else
                          some false) fun x6 =>
                        some x6
                    else
                      andx (
                        if y21 = y58_2 then
                          andx (P_law9_right qD qC qB y58 ((GSo y21_4 encI y21_3).l) y58_2 y21_2) fun y160 =>
                            if y160 = true then
                              andx (P_law9_better qD qC qB y58 y131 y58_2 y21_2 ((GSo y21_4 encI y21_3).l)) fun y169 =>
                                if y169 = true then
                                  some false
                                else
                                  if (decide (y21_2 = 0)) = (decide ((y29.length : Int) > 0)) then
                                    some true
                                  else
                                    some false
                            else
                              some false
                        else
                          some false) fun x6 =>
                        some x6
end Go.Am
end
section
namespace Go.Am.YtiaolgbmbhldgaaGreatDoor
open Go.Am Go.RowKit
set_option linter.unusedVariables false
set_option linter.unusedSimpArgs false
set_option maxRecDepth 10000 in
theorem tf_law_ShelfPut {k : Nat} (hk : 2 ≤ k) {C : List Thing} {qF : AV} {qD : List Str} {qE : AV} {qC : List qH} {qG : AV} {qB : List qA} {qL : Int} {qM : Int} {qN : Str} {qJ : Int} {qI : Int} {qR : Int} {qS : Int} {v_x : AV} {x : List UInt8} (qAb : RdT encStr qF qD) (qAc : RdT qW qE qC) (qZ : RdT qK qG qB) (ht_x : RdT encU8 v_x x) {r : Bool} (h : P_law_ShelfPut qD qC qB qL qM qN qJ qI qR qS x = some r) :
  TF (EL k) 11 [.agg [qF, qE, qG], .agg [iv (qL), iv (qM), sv qN, iv (qJ), iv (qI), iv (qR), iv (qS)], v_x] C (RepF (fun (w : Unit) => bv r) (fun (w : Unit) => C)) := by
 unfold P_law_ShelfPut at h
 have qV : Rdl C encStr qF qD := RdT.rdl qAb
 have qT : Rdl C qW qE qC := RdT.rdl qAc
 have qU : Rdl C qK qG qB := RdT.rdl qZ
 have h_x : Rdl C encU8 v_x x := RdT.rdl ht_x;refine TF.enter (fn := Go.Proofs.Tryz.f11) rfl rfl rfl rfl rfl (zU rfl (zQ 3 [_,_,_] R7 (fun b3=>zQ 7 [_,_,_,_,_,_,_] R7 (fun b4=>zA R4 (zN (zU rfl (zV R3 (vW 1 [_,_,_] R5 R4) (zV R3 (vW 0 [_,_,_,_,_,_,_] R5 R4) ?_))))))));obtain ⟨⟨y21, y21_2, y21_3, y21_4, y21_5⟩, hr21, h⟩ := andx_some h;dsimp only at h;obtain ⟨g, hgg, hrg⟩ := Rdl.reif (hs := .row b4 7 [iv (qL), iv (qM), sv qN, iv (qJ), iv (qI), iv (qR), iv (qS)] :: .row b3 3 [qF, qE, qG] :: C) qV M2 (ReifL.flat encStr_tr);obtain ⟨g_2, hgg_2, hrg_2⟩ := Rdl.reif (hs := .row b4 7 [iv (qL), iv (qM), sv qN, iv (qJ), iv (qI), iv (qR), iv (qS)] :: .row b3 3 [qF, qE, qG] :: C) qT M2 (ReifL.flat qAf);obtain ⟨g_3, hgg_3, hrg_3⟩ := Rdl.reif (hs := .row b4 7 [iv (qL), iv (qM), sv qN, iv (qJ), iv (qI), iv (qR), iv (qS)] :: .row b3 3 [qF, qE, qG] :: C) qU M2 (ReifL.flat qAe);refine TO.call rfl rfl rfl rfl rfl (orcL rfl aD) (.cons (.agg (.cons (hrg _) (.cons (hrg_2 _) (.cons (hrg_3 _) .nil)))) (.cons (.agg (.cons .lit (.cons .lit (.cons .lit (.cons .lit (.cons .lit (.cons .lit (.cons .lit .nil)))))))) .nil)) (sem_of (w_s9_Put g g_2 g_3 qL qM qN qJ qI qR qS _ (by try rw [hgg]; try rw [hgg_2]; try rw [hgg_3]; exact hr21))) (zM R4 (zX R5 (zX R5 (zX R5 (zX R5 (zA R4 (zA R4 (zA R4 (zA R4 (zN (zU rfl (zV R3 (vW 1 [_,_,_] R5 R4) (zV R3 (vW 0 [_,_,_,_,_,_,_] R5 R4) ?_)))))))))))));obtain ⟨⟨y29, y29_2⟩, hr29, h⟩ := andx_some h;dsimp only at h;obtain ⟨g_4, hgg_4, hrg_4⟩ := Rdl.reif (hs := .row b4 7 [iv (qL), iv (qM), sv qN, iv (qJ), iv (qI), iv (qR), iv (qS)] :: .row b3 3 [qF, qE, qG] :: C) qV M2 (ReifL.flat encStr_tr);obtain ⟨g_5, hgg_5, hrg_5⟩ := Rdl.reif (hs := .row b4 7 [iv (qL), iv (qM), sv qN, iv (qJ), iv (qI), iv (qR), iv (qS)] :: .row b3 3 [qF, qE, qG] :: C) qT M2 (ReifL.flat qAf);obtain ⟨g_6, hgg_6, hrg_6⟩ := Rdl.reif (hs := .row b4 7 [iv (qL), iv (qM), sv qN, iv (qJ), iv (qI), iv (qR), iv (qS)] :: .row b3 3 [qF, qE, qG] :: C) qU M2 (ReifL.flat qAe);refine TO.call rfl rfl rfl rfl rfl (orcL rfl aD) (.cons (.agg (.cons (hrg_4 _) (.cons (hrg_5 _) (.cons (hrg_6 _) .nil)))) (.cons (.agg (.cons .lit (.cons .lit (.cons .lit (.cons .lit (.cons .lit (.cons .lit (.cons .lit .nil)))))))) .nil)) (sem_of (w_s9_Fits g_4 g_5 g_6 qL qM qN qJ qI qR qS _ (by try rw [hgg_4]; try rw [hgg_5]; try rw [hgg_6]; exact hr29))) (zM R4 (zX R5 (zX R5 (zA R4 (zA R4 (zN (zS (zU rfl (zV R3 (vW 1 [_,_,_] R5 R4) (zV R3 (vW 0 [_,_,_,_,_,_,_] R5 R4) ?_))))))))))
 obtain ⟨y34, hr34, h⟩ := andx_some h;obtain ⟨g_7, hgg_7, hrg_7⟩ := Rdl.reif (hs := .row b4 7 [iv (qL), iv (qM), sv qN, iv (qJ), iv (qI), iv (qR), iv (qS)] :: .row b3 3 [qF, qE, qG] :: C) qV M2 (ReifL.flat encStr_tr);obtain ⟨g_8, hgg_8, hrg_8⟩ := Rdl.reif (hs := .row b4 7 [iv (qL), iv (qM), sv qN, iv (qJ), iv (qI), iv (qR), iv (qS)] :: .row b3 3 [qF, qE, qG] :: C) qT M2 (ReifL.flat qAf);obtain ⟨g_9, hgg_9, hrg_9⟩ := Rdl.reif (hs := .row b4 7 [iv (qL), iv (qM), sv qN, iv (qJ), iv (qI), iv (qR), iv (qS)] :: .row b3 3 [qF, qE, qG] :: C) qU M2 (ReifL.flat qAe);refine TO.call rfl rfl rfl rfl rfl (orcL rfl aD) (.cons (.agg (.cons (hrg_7 _) (.cons (hrg_8 _) (.cons (hrg_9 _) .nil)))) (.cons (.agg (.cons .lit (.cons .lit (.cons .lit (.cons .lit (.cons .lit (.cons .lit (.cons .lit .nil)))))))) .nil)) (sem_of (w_r9_Further g_7 g_8 g_9 qL qM qN qJ qI qR qS _ (by try rw [hgg_7]; try rw [hgg_8]; try rw [hgg_9]; exact hr34))) ?_;obtain ⟨c35, hc35⟩ := zY (¬ y34 = 0);refine zV R3 (Val.neq hc35 rfl rfl) (zN ?_);obtain ⟨rfl, hc35, h⟩ | ⟨rfl, hc35, h⟩ := zI hc35 h
 ·refine zC rfl ?_
  show T _ _ _ _ _ _;apply T.joinA (r := r) (W := Unit) (fun j w => ⟨[], [(6, bv j)], .row b4 7 [iv (qL), iv (qM), sv qN, iv (qJ), iv (qI), iv (qR), iv (qS)] :: .row b3 3 [qF, qE, qG] :: C⟩) h
  ·intro j h;refine zT rfl (zM R4 ?_);obtain ⟨c37, hc37⟩ := zY (¬ y21_5 = 0);refine zV R3 (Val.neq hc37 rfl rfl) (zM R4 ?_);obtain ⟨rfl, hc37, h⟩ | ⟨rfl, hc37, h⟩ := zI hc37 h
   ·refine zM R4 (zM R4 ?_);obtain ⟨c41, hc41⟩ := zY (y29_2 = y21_5);refine zV R3 (Val.eql hc41 rfl rfl) (zP R6 (zM R4 ?_));obtain ⟨rfl, hc41, h⟩ | ⟨rfl, hc41, h⟩ := zI hc41 h
    ·refine zM R4 (zV R3 (Val.len_gs rfl rfl) (zM R4 (zV R3 (Val.len_gs rfl rfl) ?_)));obtain ⟨hk48, h⟩ := chk_some h;refine zV R3 (Val.add rfl rfl hk48) ?_;obtain ⟨c49, hc49⟩ := zY (((((GSo y21_4 encI y21_3).l).length : Int) + (y29.length : Int)) = 0);refine zV R3 (Val.eql hc49 rfl rfl) (zP R6 (zM R4 ?_));obtain ⟨rfl, hc49, h⟩ | ⟨rfl, hc49, h⟩ := zI hc49 h
     ·refine TO.call rfl rfl rfl rfl rfl orcA .nil rfl (zP R6 (zA R4 (zN ?_)));cases h;exact ⟨rfl, (), (sb .refl)⟩
     refine zO R3 (zP R6 (zA R4 (zN ?_)));cases h;exact ⟨rfl, (), (sb .refl)⟩
    refine zO R3 (zO R3 (zO R3 (zO R3 (zO R3 (zO R3 (zP R6 (zM R4 (zO R3 (zP R6 (zA R4 (zN ?_)))))))))));cases h;exact ⟨rfl, (), (sb .refl)⟩
   refine zO R3 (zO R3 (zO R3 (zP R6 (zM R4 (zO R3 (zO R3 (zO R3 (zO R3 (zO R3 (zO R3 (zP R6 (zM R4 (zO R3 (zP R6 (zA R4 (zN ?_))))))))))))))));cases h;exact ⟨rfl, (), (sb .refl)⟩
  ·rintro x6 _ h;refine zR ?_;cases h;exact ⟨rfl, _, rfl, ⟨(), rfl, (pk [98,98] rfl)⟩⟩
 refine zD rfl (zK (zU rfl (zF 2 R6 (zL 1 R3 R6 (zV R3 (vW 0 [_,_,_,_,_,_,_] R5 R4) ?_)))));obtain ⟨⟨y58, y58_2⟩, hr58, h⟩ := andx_some h;dsimp only at h;refine TO.callT (first := []) (cap := []) (vs := [qG, .agg [iv (qL), iv (qM), sv qN, iv (qJ), iv (qI), iv (qR), iv (qS)]]) rfl rfl rfl rfl rfl rfl (orcN rfl) (tf_r9_With aD qZ hr58) ?_;rintro w58;refine zG (_::_::_::C) rfl (zM R4 (zX R5 (zX R5 (zA R4 (zA R4 (zN (zS (zU rfl (zM R4 ?_)))))))));obtain ⟨c62, hc62⟩ := zY (¬ y29_2 = 0);refine zV R3 (Val.neq hc62 rfl rfl) (zN ?_);obtain ⟨rfl, hc62, h⟩ | ⟨rfl, hc62, h⟩ := zI hc62 h
 ·refine zC rfl (zU rfl (zA R4 (zN (zR ?_))));cases h;exact ⟨rfl, _, rfl, ⟨(), rfl, (pk [98,98,98] rfl)⟩⟩
 refine zD rfl (zK ?_)
 show T _ _ _ _ _ _;apply T.join (r := r) (W := Unit) (fun j w => ⟨[], [(2, v_x), (3, .ptr b3 0 3), (7, iv (y21)), (8, iv (y21_2)), (9, (GSo y21_4 encI y21_3).v), (10, iv (y21_5)), (11, (GSo true encI y29).v), (13, w58), (14, iv (y58_2))], ownL false w58 qK y58 :: .row b3 3 [qF, qE, qG] :: C⟩) h
 ·intro j h;refine zU rfl (zA R4 (zN (zB ?_)))
  show T _ _ _ _ _ _;apply T.iter (r := j) (W := Unit) (fun j w => ⟨[], [(2, v_x), (3, .ptr b3 0 3), (7, iv (y21)), (8, iv (y21_2)), (9, (GSo y21_4 encI y21_3).v), (10, iv (y21_5)), (11, (GSo true encI y29).v), (13, w58), (14, iv (y58_2)), (15, iv (j))], ownL false w58 qK y58 :: .row b3 3 [qF, qE, qG] :: C⟩) (w0 := ()) h
  ·exact (sb (pk [0,1,98] rfl))
  rintro i _ a h;unfold P_law_ShelfPut_L1 at h;refine zS (zU rfl (zM R4 (zM R4 (zV R3 (Val.len_gs rfl rfl) ?_))));obtain ⟨c66, hc66⟩ := zY (i < (y29.length : Int));refine zV R3 (Val.lss hc66 rfl rfl) (zN ?_);obtain ⟨rfl, hc66, h⟩ | ⟨rfl, hc66, h⟩ := zI hc66 h
  ·refine zC rfl (zK ?_)
   show T _ _ _ _ _ _;apply T.join (r := a) (W := Unit) (fun j w => ⟨[], [(2, v_x), (3, .ptr b3 0 3), (7, iv (y21)), (8, iv (y21_2)), (9, (GSo y21_4 encI y21_3).v), (10, iv (y21_5)), (11, (GSo true encI y29).v), (13, w58), (14, iv (y58_2)), (15, iv (i))], ownL false w58 qK y58 :: .row b3 3 [qF, qE, qG] :: C⟩) h
   ·intro j h;refine zB (zU rfl (zM R4 ?_));obtain ⟨y70, hr70, h⟩ := andx_some h;refine TO.callT (first := []) (cap := []) (vs := [w58]) rfl rfl rfl rfl rfl rfl (orcN rfl) (tf_r9_Own aD (Rdl.mono (Rdl.own (C := ownL false w58 qK y58 :: .row b3 3 [qF, qE, qG] :: C) (p := 0) rfl) mem0) hr70) ?_;rintro w70;refine zG (_::_::_::C) rfl (zA R4 (zN (zU rfl (zM R4 (zM R4 (zM R4 (zM R4 ?_)))))));obtain ⟨a75, hia75, ea75, h⟩ := el_some h;refine TO.fact (rdl_at (Rdl.gs (C := C) (GSo true encI y29)) M3 hia75 ea75) (fun hp=>?_);obtain ⟨pa75, hpa75, hva75⟩ := hp;refine zV R3 (hva75 ⟨rfl, rfl⟩ rfl rfl) (zV R3 (Val.load_e hpa75 M3 ⟨_, rfl, rfl⟩ rfl rfl) ?_);obtain ⟨a77, hia77, ea77, h⟩ := el_some h;refine TO.fact (own_at (en := encI) (p := 0) rfl hia77) (fun hp=>?_);obtain ⟨ida77, ata77⟩ := hp;refine zV R3 (Val.iaddr_at (en := encI) ata77 ⟨rfl, rfl⟩ rfl rfl hia77) (TO.eff0 rfl rfl (Eff.store_ownE (en := encI) (p := 0) (a := a77) (a' := a75) (j := 0) (cv := [_]) rfl ata77 ea77 rfl rfl (by decide) rfl rfl rfl rfl aG rfl) ?_);rintro _ rfl;refine zG (_::_::_::C) rfl (zN ?_)
    show T _ _ _ _ _ _;apply T.joinA (r := j) (W := Unit) (fun j w => ⟨[], [(2, v_x), (3, .ptr b3 0 3), (7, iv (y21)), (8, iv (y21_2)), (9, (GSo y21_4 encI y21_3).v), (10, iv (y21_5)), (11, (GSo true encI y29).v), (13, w58), (14, iv (y58_2)), (15, iv (i)), (115, bv j)], ownL true w70 encI (List.set y70 y58_2.toNat a75) :: ownL false w58 qK y58 :: .row b3 3 [qF, qE, qG] :: C⟩) h
    ·intro j h;refine T.drawE (l1 := [0, 1, 2, 3, 4, 5, 6, 7, 8, 9, 10, 11, 12, 13, 14, 15, 16, 17, 18, 19, 20, 21, 22, 23, 24, 25, 26, 27, 28, 29, 30, 31, 32, 33, 34]) (l2 := [35, 36, 37]) (by kernel_rfl) (by kernel_rfl) (yL R4 (Val.move rfl) (yL R4 (Val.move rfl) ?_));obtain ⟨a80, hia80, ea80, h⟩ := el_some h;refine TD1.fact (rdl_at (Rdl.gs (C := C) (GSo true encI y29)) M3 hia80 ea80) (fun hp=>?_);obtain ⟨pa80, hpa80, hva80⟩ := hp;refine yL R4 (hva80 ⟨rfl, rfl⟩ rfl rfl) (yR R4 (Val.load_e hpa80 M3 ⟨_, rfl, rfl⟩ rfl rfl) ?_);obtain ⟨c82, hc82⟩ := zY (a80 < 0);refine yL R4 (Val.lss hc82 rfl rfl) (yL R4 (Val.move rfl) ?_);obtain ⟨rfl, hc82, h⟩ | ⟨rfl, hc82, h⟩ := zI hc82 h
     ·refine TD1.off rfl rfl rfl (TD1.off rfl rfl rfl (TD1.off rfl rfl rfl (TD1.off rfl rfl rfl (TD1.off rfl rfl rfl (TD1.off rfl rfl rfl (TD1.off rfl rfl rfl (TD1.off rfl rfl rfl (yL R4 (Val.pick rfl rfl rfl) (yL R4 (Val.move rfl) (TD1.off rfl rfl rfl (TD1.off rfl rfl rfl (TD1.off rfl rfl rfl (TD1.off rfl rfl rfl (TD1.off rfl rfl rfl (TD1.off rfl rfl rfl (TD1.off rfl rfl rfl (TD1.off rfl rfl rfl (TD1.off rfl rfl rfl (TD1.off rfl rfl rfl (TD1.off rfl rfl rfl (TD1.off rfl rfl rfl (TD1.off rfl rfl rfl (TD1.off rfl rfl rfl (yL R4 (Val.pick rfl rfl rfl) (yL R4 (Val.move rfl) (TD1.off rfl rfl rfl (TD1.off rfl rfl rfl (TD1.off rfl rfl rfl (TD1.over (fun v => sameC_refl v) (all_cons (⟨_, rfl, (Val.load_e hpa80 M3 ⟨_, rfl, rfl⟩ rfl rfl)⟩) all_nil) (TD2.off rfl rfl rfl (TD2.off rfl rfl rfl (yM R4 (Val.pick rfl rfl rfl) (TD2.nil ?_)))))))))))))))))))))))))))))))));cases h;exact ⟨rfl, (), (sb .refl)⟩
     refine yL R4 (Val.move rfl) (yL R4 (Val.move rfl) ?_);obtain ⟨a86, hia86, ea86, h⟩ := el_some h;refine TD1.fact (rdl_at (Rdl.gs (C := C) (GSo true encI y29)) M3 hia86 ea86) (fun hp=>?_);obtain ⟨pa86, hpa86, hva86⟩ := hp;refine yL R4 (hva86 ⟨rfl, rfl⟩ rfl rfl) (yR R4 (Val.load_e hpa86 M3 ⟨_, rfl, rfl⟩ rfl rfl) (yL R4 (Val.faddr_ptr (fo := 1) rfl rfl rfl) (yR R4 (vR (p := 2) R6) (yR R4 (Val.len_l qT M3 rfl rfl) ?_))));obtain ⟨c91, hc91⟩ := zY (a86 ≥ (qC.length : Int));refine yL R4 (Val.geq hc91 rfl rfl) (yL R4 (Val.pick rfl rfl rfl) (yL R4 (Val.move rfl) ?_));obtain ⟨rfl, hc91, h⟩ | ⟨rfl, hc91, h⟩ := zI hc91 h
     ·refine TD1.off rfl rfl rfl (TD1.off rfl rfl rfl (TD1.off rfl rfl rfl (TD1.off rfl rfl rfl (TD1.off rfl rfl rfl (TD1.off rfl rfl rfl (TD1.off rfl rfl rfl (TD1.off rfl rfl rfl (TD1.off rfl rfl rfl (TD1.off rfl rfl rfl (TD1.off rfl rfl rfl (TD1.off rfl rfl rfl (TD1.off rfl rfl rfl (TD1.off rfl rfl rfl (yL R4 (Val.pick rfl rfl rfl) (yL R4 (Val.move rfl) (TD1.off rfl rfl rfl (TD1.off rfl rfl rfl (TD1.off rfl rfl rfl (TD1.over (fun v => sameC_refl v) (all_cons (⟨_, rfl, (Val.len_l qT M3 rfl rfl)⟩) (all_cons (⟨_, rfl, (vR (p := 2) R6)⟩) (all_cons (⟨_, rfl, (Val.load_e hpa86 M3 ⟨_, rfl, rfl⟩ rfl rfl)⟩) (all_cons (⟨_, rfl, (Val.load_e hpa80 M3 ⟨_, rfl, rfl⟩ rfl rfl)⟩) all_nil)))) (TD2.off rfl rfl rfl (TD2.off rfl rfl rfl (yM R4 (Val.pick rfl rfl rfl) (TD2.nil ?_)))))))))))))))))))))));cases h;exact ⟨rfl, (), (sb .refl)⟩
     refine yL R4 (Val.move rfl) ?_;obtain ⟨c95, hc95⟩ := zY (i > 0);refine yL R4 (Val.gtr hc95 rfl rfl) (yL R4 (Val.move rfl) ?_);obtain ⟨rfl, hc95, h⟩ | ⟨rfl, hc95, h⟩ := zI hc95 h
     ·refine yL R4 (Val.move rfl) (yL R4 (Val.move rfl) ?_);obtain ⟨a99, hia99, ea99, h⟩ := el_some h;refine TD1.fact (rdl_at (Rdl.gs (C := C) (GSo true encI y29)) M3 hia99 ea99) (fun hp=>?_);obtain ⟨pa99, hpa99, hva99⟩ := hp;refine yL R4 (hva99 ⟨rfl, rfl⟩ rfl rfl) (yR R4 (Val.load_e hpa99 M3 ⟨_, rfl, rfl⟩ rfl rfl) (yL R4 (Val.move rfl) (yL R4 (Val.move rfl) ?_)));obtain ⟨hk103, h⟩ := chk_some h;refine yL R4 (Val.sub rfl rfl hk103) ?_;obtain ⟨a104, hia104, ea104, h⟩ := el_some h;refine TD1.fact (rdl_at (Rdl.gs (C := C) (GSo true encI y29)) M3 hia104 ea104) (fun hp=>?_);obtain ⟨pa104, hpa104, hva104⟩ := hp;refine yL R4 (hva104 ⟨rfl, rfl⟩ rfl rfl) (yR R4 (Val.load_e hpa104 M3 ⟨_, rfl, rfl⟩ rfl rfl) ?_);obtain ⟨c106, hc106⟩ := zY (a99 ≤ a104);refine yL R4 (Val.leq hc106 rfl rfl) (yL R4 (Val.pick rfl rfl rfl) (yL R4 (Val.pick rfl rfl rfl) (yL R4 (Val.move rfl) ?_)));obtain ⟨rfl, hc106, h⟩ | ⟨rfl, hc106, h⟩ := zI hc106 h
      ·refine TD1.off rfl rfl rfl (TD1.off rfl rfl rfl (TD1.off rfl rfl rfl (TD1.over (fun v => sameC_refl v) (all_cons (⟨_, rfl, (Val.load_e hpa104 M3 ⟨_, rfl, rfl⟩ rfl rfl)⟩) (all_cons (⟨_, rfl, (Val.load_e hpa99 M3 ⟨_, rfl, rfl⟩ rfl rfl)⟩) (all_cons (⟨_, rfl, (Val.len_l qT M3 rfl rfl)⟩) (all_cons (⟨_, rfl, (vR (p := 2) R6)⟩) (all_cons (⟨_, rfl, (Val.load_e hpa86 M3 ⟨_, rfl, rfl⟩ rfl rfl)⟩) (all_cons (⟨_, rfl, (Val.load_e hpa80 M3 ⟨_, rfl, rfl⟩ rfl rfl)⟩) all_nil)))))) (TD2.off rfl rfl rfl (TD2.off rfl rfl rfl (yM R4 (Val.pick rfl rfl rfl) (TD2.nil ?_)))))));cases h;exact ⟨rfl, (), (sb .refl)⟩
      refine yR R4 (vW 2 [_,_,_] R5 R4) (yL R4 (Val.move rfl) (yL R4 (Val.move rfl) (TD1.over (fun v => sameC_refl v) (all_cons (⟨_, rfl, (vW 2 [_,_,_] R5 R4)⟩) (all_cons (⟨_, rfl, (Val.load_e hpa104 M3 ⟨_, rfl, rfl⟩ rfl rfl)⟩) (all_cons (⟨_, rfl, (Val.load_e hpa99 M3 ⟨_, rfl, rfl⟩ rfl rfl)⟩) (all_cons (⟨_, rfl, (Val.len_l qT M3 rfl rfl)⟩) (all_cons (⟨_, rfl, (vR (p := 2) R6)⟩) (all_cons (⟨_, rfl, (Val.load_e hpa86 M3 ⟨_, rfl, rfl⟩ rfl rfl)⟩) (all_cons (⟨_, rfl, (Val.load_e hpa80 M3 ⟨_, rfl, rfl⟩ rfl rfl)⟩) all_nil))))))) ?_)));obtain ⟨y113, hr113, h⟩ := andx_some h;refine TD2.heavy (fun v => sameC_refl v) rfl (by decide) rfl rfl (OpS.callV rfl rfl rfl rfl (orcN rfl) (RepF.conv (tf_r9_Arranged aD (Rdl.mono qV M3) (Rdl.mono qT M3) (Rdl.mono qU M3) (Rdl.mono (Rdl.own (C := ownL true w70 encI (List.set y70 y58_2.toNat a75) :: ownL false w58 qK y58 :: .row b3 3 [qF, qE, qG] :: C) (p := 1) rfl) mem0) (Rdl.mono (Rdl.own (C := ownL true w70 encI (List.set y70 y58_2.toNat a75) :: ownL false w58 qK y58 :: .row b3 3 [qF, qE, qG] :: C) (p := 0) rfl) mem0) hr113))) ?_;rintro _ hs_ ⟨_, rfl, he_⟩;subst hs_;refine ⟨(all_cons (.inl (by kernel_rfl)) (all_cons (.inl (by kernel_rfl)) (all_cons (.inl (by kernel_rfl)) (all_cons (.inl (by kernel_rfl)) (all_cons (.inl (by kernel_rfl)) (all_cons (.inl (by kernel_rfl)) (all_cons (.inl (by kernel_rfl)) all_nil))))))), all_nil, ?_⟩;refine yG (_::_::_::C) rfl (yM R4 (Val.not rfl) (yM R4 (Val.pick rfl rfl rfl) (TD2.nil ?_)));cases h;exact ⟨rfl, (), (sb .refl)⟩
     refine TD1.off rfl rfl rfl (TD1.off rfl rfl rfl (TD1.off rfl rfl rfl (TD1.off rfl rfl rfl (TD1.off rfl rfl rfl (TD1.off rfl rfl rfl (TD1.off rfl rfl rfl (TD1.off rfl rfl rfl (TD1.off rfl rfl rfl (TD1.off rfl rfl rfl (yL R4 (Val.pick rfl rfl rfl) (yL R4 (Val.pick rfl rfl rfl) (yL R4 (Val.move rfl) (yR R4 (vW 2 [_,_,_] R5 R4) (yL R4 (Val.move rfl) (yL R4 (Val.move rfl) (TD1.over (fun v => sameC_refl v) (all_cons (⟨_, rfl, (vW 2 [_,_,_] R5 R4)⟩) (all_cons (⟨_, rfl, (Val.len_l qT M3 rfl rfl)⟩) (all_cons (⟨_, rfl, (vR (p := 2) R6)⟩) (all_cons (⟨_, rfl, (Val.load_e hpa86 M3 ⟨_, rfl, rfl⟩ rfl rfl)⟩) (all_cons (⟨_, rfl, (Val.load_e hpa80 M3 ⟨_, rfl, rfl⟩ rfl rfl)⟩) all_nil))))) ?_))))))))))))))));obtain ⟨y113, hr113, h⟩ := andx_some h;refine TD2.heavy (fun v => sameC_refl v) rfl (by decide) rfl rfl (OpS.callV rfl rfl rfl rfl (orcN rfl) (RepF.conv (tf_r9_Arranged aD (Rdl.mono qV M3) (Rdl.mono qT M3) (Rdl.mono qU M3) (Rdl.mono (Rdl.own (C := ownL true w70 encI (List.set y70 y58_2.toNat a75) :: ownL false w58 qK y58 :: .row b3 3 [qF, qE, qG] :: C) (p := 1) rfl) mem0) (Rdl.mono (Rdl.own (C := ownL true w70 encI (List.set y70 y58_2.toNat a75) :: ownL false w58 qK y58 :: .row b3 3 [qF, qE, qG] :: C) (p := 0) rfl) mem0) hr113))) ?_;rintro _ hs_ ⟨_, rfl, he_⟩;subst hs_;refine ⟨(all_cons (.inl (by kernel_rfl)) (all_cons (.inl (by kernel_rfl)) (all_cons (.inl (by kernel_rfl)) (all_cons (.inl (by kernel_rfl)) (all_cons (.inl (by kernel_rfl)) all_nil))))), all_nil, ?_⟩;refine yG (_::_::_::C) rfl (yM R4 (Val.not rfl) (yM R4 (Val.pick rfl rfl rfl) (TD2.nil ?_)));cases h;exact ⟨rfl, (), (sb .refl)⟩
    ·rintro x115 _ h;obtain ⟨rfl, h⟩ | ⟨rfl, h⟩ := zZ h
     ·refine zC rfl (zU rfl (zA R4 (zN (zR ?_))));cases h;exact ⟨ret_ne, ⟨ret_ne, ⟨ret_ne, ⟨rfl, _, rfl, ⟨(), rfl, (pk [98,98,98] rfl)⟩⟩⟩⟩⟩
     refine zD rfl (zK ?_);cases h;exact ⟨rfl, (), (sb (pk [1,1,98] rfl))⟩
   ·rintro _ _ h;refine zT rfl (zM R4 ?_);obtain ⟨hk68, h⟩ := chk_some h;refine zV R3 (Val.add rfl rfl hk68) (zA R4 (zN ?_));cases h;exact ⟨rfl, (), (sb .refl)⟩
  refine zD rfl (zE ?_);cases h;exact ⟨ex_ne, ⟨rfl, (), (sb .refl)⟩⟩
 ·rintro _ _ h;refine zS (zU rfl (zF 2 R6 (zL 1 R3 R6 (zV R3 (Val.len_l qU M2 rfl rfl) ?_))));obtain ⟨c119, hc119⟩ := zY ((qB.length : Int) = 10);refine zV R3 (Val.eql hc119 rfl rfl) (zN ?_);obtain ⟨rfl, hc119, h⟩ | ⟨rfl, hc119, h⟩ := zI hc119 h
  ·refine zC rfl ?_
   show T _ _ _ _ _ _;apply T.joinA (r := r) (W := Unit) (fun j w => ⟨[], [(6, bv j)], ownL false w58 qK y58 :: .row b3 3 [qF, qE, qG] :: C⟩) h
   ·intro j h;refine zT rfl (zM R4 ?_);obtain ⟨c121, hc121⟩ := zY (y21_5 = 3);refine zV R3 (Val.eql hc121 rfl rfl) (zM R4 ?_);obtain ⟨rfl, hc121, h⟩ | ⟨rfl, hc121, h⟩ := zI hc121 h
    ·refine TO.call rfl rfl rfl rfl rfl orcA .nil rfl (zP R6 (zA R4 (zN ?_)));cases h;exact ⟨rfl, (), (sb .refl)⟩
    refine zO R3 (zP R6 (zA R4 (zN ?_)));cases h;exact ⟨rfl, (), (sb .refl)⟩
   ·rintro x6 _ h;refine zR ?_;cases h;exact ⟨rfl, _, rfl, ⟨(), rfl, (pk [98,98] rfl)⟩⟩
  refine zD rfl (zK (zU rfl (zM R4 (zV R3 (Val.len_own (p := 0) rfl rfl rfl) (zF 1 R6 (zL 1 R3 R6 (zV R3 (Val.len_l qT M2 rfl rfl) (zM R4 ?_))))))));obtain ⟨y131, hr131, h⟩ := andx_some h;refine TO.callT (first := []) (cap := []) (vs := [iv ((y58.length : Int)), iv ((qC.length : Int)), v_x]) rfl rfl rfl rfl rfl rfl (orcN rfl) (tf_law9_Rising aD (Rdl.mono h_x M2) hr131) ?_;rintro w131;refine zG (_::_::_::C) rfl (zA R4 (zN (zS (zU rfl (zM R4 ?_)))));obtain ⟨c133, hc133⟩ := zY (¬ y21_5 = 0);refine zV R3 (Val.neq hc133 rfl rfl) (zN ?_);obtain ⟨rfl, hc133, h⟩ | ⟨rfl, hc133, h⟩ := zI hc133 h
  ·refine zC rfl ?_
   show T _ _ _ _ _ _;apply T.joinA (r := r) (W := Unit) (fun j w => ⟨[], [(6, bv j)], ownL true w131 encI y131 :: ownL false w58 qK y58 :: .row b3 3 [qF, qE, qG] :: C⟩) h
   ·intro j h;refine zT rfl (zM R4 ?_);obtain ⟨c135, hc135⟩ := zY (y21_5 = 9);refine zV R3 (Val.eql hc135 rfl rfl) (zM R4 ?_);obtain ⟨rfl, hc135, h⟩ | ⟨rfl, hc135, h⟩ := zI hc135 h
    ·refine zV R3 (vW 2 [_,_,_] R5 R4) (zM R4 (zM R4 ?_));obtain ⟨y140, hr140, h⟩ := andx_some h;refine TO.callT (first := []) (cap := []) (vs := [.agg [qF, qE, qG], w58, w131]) rfl rfl rfl rfl rfl rfl (orcN rfl) (tf_r9_Arranged aD (Rdl.mono qV M3) (Rdl.mono qT M3) (Rdl.mono qU M3) (Rdl.mono (Rdl.own (C := ownL true w131 encI y131 :: ownL false w58 qK y58 :: .row b3 3 [qF, qE, qG] :: C) (p := 1) rfl) mem0) (Rdl.mono (Rdl.own (C := ownL true w131 encI y131 :: ownL false w58 qK y58 :: .row b3 3 [qF, qE, qG] :: C) (p := 0) rfl) mem0) hr140) ?_;rintro _;refine zG (_::_::_::C) rfl (zV R3 (Val.not rfl) (zP R6 (zM R4 ?_)));obtain ⟨rfl, h⟩ | ⟨rfl, h⟩ := zZ h
     ·refine zO R3 (zO R3 (zO R3 (zP R6 (zM R4 (zO R3 (zP R6 (zA R4 (zN ?_))))))));cases h;exact ⟨rfl, (), (sb .refl)⟩
     refine zM R4 (zV R3 (Val.len_gs rfl rfl) ?_);obtain ⟨c146, hc146⟩ := zY ((y29.length : Int) = 0);refine zV R3 (Val.eql hc146 rfl rfl) (zP R6 (zM R4 ?_));obtain ⟨rfl, hc146, h⟩ | ⟨rfl, hc146, h⟩ := zI hc146 h
     ·refine TO.call rfl rfl rfl rfl rfl orcA .nil rfl (zP R6 (zA R4 (zN ?_)));cases h;exact ⟨rfl, (), (sb .refl)⟩
     refine zO R3 (zP R6 (zA R4 (zN ?_)));cases h;exact ⟨rfl, (), (sb .refl)⟩
    refine zO R3 (zO R3 (zO R3 (zO R3 (zO R3 (zP R6 (zM R4 (zO R3 (zO R3 (zO R3 (zP R6 (zM R4 (zO R3 (zP R6 (zA R4 (zN ?_)))))))))))))));cases h;exact ⟨rfl, (), (sb .refl)⟩
   ·rintro x6 _ h;refine zR ?_;cases h;exact ⟨rfl, _, rfl, ⟨(), rfl, (pk [98,98,98] rfl)⟩⟩
  refine zD rfl (zK ?_)
  show T _ _ _ _ _ _;apply T.joinA (r := r) (W := Unit) (fun j w => ⟨[], [(6, bv j)], ownL true w131 encI y131 :: ownL false w58 qK y58 :: .row b3 3 [qF, qE, qG] :: C⟩) h
  ·intro j h;refine zT rfl (zM R4 (zM R4 ?_));obtain ⟨c153, hc153⟩ := zY (y21 = y58_2);refine zV R3 (Val.eql hc153 rfl rfl) (zM R4 ?_);obtain ⟨rfl, hc153, h⟩ | ⟨rfl, hc153, h⟩ := zI hc153 h
   ·refine zV R3 (vW 2 [_,_,_] R5 R4) (zM R4 (zM R4 (zM R4 (zM R4 ?_))));obtain ⟨y160, hr160, h⟩ := andx_some h;refine TO.callT (first := []) (cap := []) (vs := [.agg [qF, qE, qG], w58, (GSo y21_4 encI y21_3).v, iv (y58_2), iv (y21_2)]) rfl rfl rfl rfl rfl rfl (orcN rfl) (tf_law9_right aD (Rdl.mono qV M3) (Rdl.mono qT M3) (Rdl.mono qU M3) (Rdl.mono (Rdl.own (C := ownL true w131 encI y131 :: ownL false w58 qK y58 :: .row b3 3 [qF, qE, qG] :: C) (p := 1) rfl) mem0) (Rdl.mono (Rdl.gs (C := C) (GSo y21_4 encI y21_3)) M3) hr160) ?_;rintro _;refine zG (_::_::_::C) rfl (zP R6 (zM R4 ?_));obtain ⟨rfl, h⟩ | ⟨rfl, h⟩ := zZ h
    ·refine zV R3 (vW 2 [_,_,_] R5 R4) (zM R4 (zM R4 (zM R4 (zM R4 (zM R4 ?_)))));obtain ⟨y169, hr169, h⟩ := andx_some h;refine TO.callT (first := []) (cap := []) (vs := [.agg [qF, qE, qG], w58, w131, iv (y58_2), iv (y21_2), (GSo y21_4 encI y21_3).v]) rfl rfl rfl rfl rfl rfl (orcN rfl) (tf_law9_better aD (Rdl.mono qV M3) (Rdl.mono qT M3) (Rdl.mono qU M3) (Rdl.mono (Rdl.own (C := ownL true w131 encI y131 :: ownL false w58 qK y58 :: .row b3 3 [qF, qE, qG] :: C) (p := 1) rfl) mem0) (Rdl.mono (Rdl.own (C := ownL true w131 encI y131 :: ownL false w58 qK y58 :: .row b3 3 [qF, qE, qG] :: C) (p := 0) rfl) mem0) (Rdl.mono (Rdl.gs (C := C) (GSo y21_4 encI y21_3)) M3) hr169) ?_;rintro _;refine zG (_::_::_::C) rfl (zV R3 (Val.not rfl) (zP R6 (zM R4 ?_)));obtain ⟨rfl, h⟩ | ⟨rfl, h⟩ := zZ h
     ·refine zO R3 (zO R3 (zO R3 (zO R3 (zO R3 (zO R3 (zP R6 (zM R4 (zO R3 (zP R6 (zA R4 (zN ?_)))))))))));cases h;exact ⟨rfl, (), (sb .refl)⟩
     refine zM R4 ?_;obtain ⟨c174, hc174⟩ := zY (y21_2 = 0);refine zV R3 (Val.eql hc174 rfl rfl) (zM R4 (zV R3 (Val.len_gs rfl rfl) ?_));obtain ⟨c177, hc177⟩ := zY ((y29.length : Int) > 0);refine zV R3 (Val.gtr hc177 rfl rfl) ?_;subst hc174;subst hc177;obtain ⟨c178, hc178⟩ := zY ((decide (y21_2 = 0)) = (decide ((y29.length : Int) > 0)));refine zV R3 (Val.beql bo_ty4 hc178 rfl rfl) (zP R6 (zM R4 ?_));obtain ⟨rfl, hc178, h⟩ | ⟨rfl, hc178, h⟩ := zI hc178 h
     ·refine TO.call rfl rfl rfl rfl rfl orcA .nil rfl (zP R6 (zA R4 (zN ?_)));cases h;exact ⟨rfl, (), (sb .refl)⟩
     refine zO R3 (zP R6 (zA R4 (zN ?_)));cases h;exact ⟨rfl, (), (sb .refl)⟩
    refine zO R3 (zO R3 (zO R3 (zO R3 (zO R3 (zO R3 (zO R3 (zO R3 (zP R6 (zM R4 (zO R3 (zO R3 (zO R3 (zO R3 (zO R3 (zO R3 (zP R6 (zM R4 (zO R3 (zP R6 (zA R4 (zN ?_)))))))))))))))))))));cases h;exact ⟨rfl, (), (sb .refl)⟩
   refine zO R3 (zO R3 (zO R3 (zO R3 (zO R3 (zO R3 (zP R6 (zM R4 (zO R3 (zO R3 (zO R3 (zO R3 (zO R3 (zO R3 (zO R3 (zO R3 (zP R6 (zM R4 (zO R3 (zO R3 (zO R3 (zO R3 (zO R3 (zO R3 (zP R6 (zM R4 (zO R3 (zP R6 (zA R4 (zN ?_)))))))))))))))))))))))))))));cases h;exact ⟨rfl, (), (sb .refl)⟩
  ·rintro x6 _ h;refine zR ?_;cases h;exact ⟨rfl, _, rfl, ⟨(), rfl, (pk [98,98,98] rfl)⟩⟩
theorem w_law_ShelfPut (qD : GS encStr) (qC : GS qW) (qB : GS qK) (qL : Int) (qM : Int) (qN : Str) (qJ : Int) (qI : Int) (qR : Int) (qS : Int) (x : GS encU8) (r : Bool) (h : P_law_ShelfPut qD.l qC.l qB.l qL qM qN qJ qI qR qS x.l = some r) : Comes (EL 2) 11 [.agg [qD.v, qC.v, qB.v], .agg [iv (qL), iv (qM), sv qN, iv (qJ), iv (qI), iv (qR), iv (qS)], x.v] (bv r) :=
 TF.run (tf_law_ShelfPut (Nat.le_refl _) (RdT.gs qD) (RdT.gs qC) (RdT.gs qB) (RdT.gs x) h) fun w => .lit
end Go.Am.YtiaolgbmbhldgaaGreatDoor
end
